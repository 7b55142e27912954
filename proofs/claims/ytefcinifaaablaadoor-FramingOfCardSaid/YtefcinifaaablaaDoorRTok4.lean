/-
  The document's layer 1: Split (printed by gen/rsplit.py).
-/
import Derived.Test.YtefcinifaaablaaDoorRTok3
import Derived.Test.YtefcinifaaablaaDoorTok6
namespace Go.Proofs.YtefcinifaaablaaDoor.Tok
open Go.RowKit Go.Sep
set_option maxRecDepth 100000
set_option linter.unusedVariables false
set_option linter.unusedSimpArgs false

structure RSp (s : ByteArray) (i : Nat) (S : Sp) : Prop where
  st : ((bl s).take i).foldl spStep ⟨[], false, false, []⟩ = S
  e : S.e = false ∨ s.size ≤ i
  ow : S.own.length ≤ i
  o : S.out.length ≤ i
theorem nonempty_sb {t : List UInt8} (h : t ≠ []) : (sb t).toList.isEmpty = false := by
  rw [Go.Lib.toList_data]; show (bl (sb t)).isEmpty = false
  rw [bl_sb]
  cases t with
  | nil => exact absurd rfl h
  | cons _ _ => rfl
theorem ext_one {s : ByteArray} {i : Nat} (h : i < (bl s).length) : s.extract i (i + 1) = sb [(bl s)[i]] := by
  apply bl_inj
  rw [bl_ext', bl_sb, List.drop_eq_getElem_cons h, Nat.add_sub_cancel_left]
  rfl
theorem rtrim_sb (l : List UInt8) (h : l.length ≤ 1048576) (wq : World) : Calls Tryd.prog 54 #[.string (sb l)] wq fun e w' => e = .returned (.string (sb (trimL l))) ∧ Below wq.heap.size wq w' := by
  have := rtrim_calls (sb l) (by rw [sb_size]; exact h) wq
  rw [bl_sb] at this
  exact this
set_option maxHeartbeats 16000000 in
theorem rsplit_calls (s : ByteArray) (hs : s.size ≤ 1000000) (F : Asr) (w : World) (hw : Holds w F) : Calls Tryd.prog 36 #[.string s] w (SplitC s F w) := by
  have TC := Lib.hid (fun (l : List UInt8) (h : l.length ≤ 1048576) wq => rtrim_sb l h wq)
  have H0 : Hid (Holds w (rowL 9 1 strE (.slice none 0 0) [] * F)) := rowL_nil hw
  clear hw
  go_enter Tryd.func36, Tryd.ntmps36
  go_wp2_with fail
  go_loopw [4, 5, 6, 7] (fun v o q x wl => ∃ (i : Nat) (S : Sp) (ao : Option Addr) (n cap : Nat), v = .slice ao n cap ∧ o = .string (sb S.own) ∧ q = .bool S.q ∧ x = .int .i64 i ∧ i ≤ s.size ∧ Hid (n = S.out.length) ∧ Hid (RSp s i S) ∧ Hid (Holds wl (rowL 9 1 strE (.slice ao n cap) S.out * F)) ∧ Hid (Sm w wl)) (fun _ _ _ x _ => s.size - (intOf x).toNat)
  case atStart => exact ⟨0, ⟨[], false, false, []⟩, none, 0, 0, rfl, rfl, rfl, rfl, Nat.zero_le _, rfl, ⟨rfl, .inl rfl, Nat.le_refl _, Nat.le_refl _⟩, H0.out, Sm.refl _⟩
  case round =>
    clear H0
    obtain ⟨i, S, ao, n, cap, rfl, rfl, rfl, rfl, hi, HL, HI, HH, HS⟩ := hrel
    obtain ⟨own, q, se, out⟩ := S
    simp only at HL HI HH
    have hal := addW_len out own
    have ow := HI.out.ow
    have ol := HI.out.o
    simp only at ow ol
    have TO := Lib.hid (TC.out own (by omega))
    have la : (sb own).size ≤ 1000000 := by rw [sb_size]; omega
    by_cases hil : i < s.size
    · have hib : i < (bl s).length := by rw [bl_len]; exact hil
      have IX := idx_s s i hil
      have FN := fold_next HI.out.st hib
      have he : se = false := by rcases HI.out.e with h | h; exact h; omega
      subst he
      have CT : sb own ++ s.extract i (i + 1) = sb (own ++ [(bl s)[i]]) := by rw [ext_one hib, sb_app']
      have lb : (s.extract i (i + 1)).size = 1 := by rw [ByteArray.size_extract]; omega
      obtain ⟨b, hb⟩ : ∃ z, (bl s)[i] = z := ⟨_, rfl⟩
      obtain ⟨k, hk⟩ : ∃ z, b.toNat = z := ⟨_, rfl⟩
      rw [hb] at FN IX CT
      rw [hk] at IX
      have h34 := u8_eq hk 34
      have h92 := u8_eq hk 92
      have h44 := u8_eq hk 44
      simp only [UInt8.reduceToNat] at h34 h92 h44
      have hk9 : k < 256 := by rw [← hk]; exact UInt8.toNat_lt _
      have i0 : (0 : Int) ≤ (i : Int) := by omega
      have i1 : (i : Int) < (s.size : Int) := by omega
      have i2 : (i : Int) ≤ (i : Int) + 1 := by omega
      have i3 : (i : Int) + 1 ≤ (s.size : Int) := by omega
      have w1 : IntKind.i64.wrap ((i : Int) + 1) = (i : Int) + 1 := IntWalk.i64_in _ (by omega)
      cases q with
      | true =>
        by_cases c34 : k = 34
        · clear hal
          have e34 : ((k : Int) == 34) = true := by simp; omega
          have e34n : (k == 34) = true := by simpa using c34
          have ES : spStep ⟨own, true, false, out⟩ b = ⟨own ++ [b], false, false, out⟩ := by unfold spStep; simp [h34.2 c34]
          rw [ES] at FN
          have HN : Hid (RSp s (i + 1) ⟨own ++ [b], false, false, out⟩) := ⟨FN, .inl rfl, by simp only [List.length_append, List.length_cons, List.length_nil]; omega, by simp only; omega⟩
          clear FN ES h34 h92 h44 HI hb hk TO
          go_wp2_with fail
          go_roundw
          case rel => exact ⟨i + 1, ⟨own ++ [b], false, false, out⟩, ao, n, cap, rfl, rfl, by first | rfl | simp, by go_num, by omega, HL, HN, HH, HS⟩
          case measure => simp [intOf]; omega
        · by_cases c92 : k = 92
          · clear hal
            have e34 : ((k : Int) == 34) = false := beq_eq_false_iff_ne.2 (by omega)
            have e34n : (k == 34) = false := beq_eq_false_iff_ne.2 (by omega)
            have e92 : ((k : Int) == 92) = true := by simp; omega
            have e92n : (k == 92) = true := by simpa using c92
            have ES : spStep ⟨own, true, false, out⟩ b = ⟨own ++ [b], true, true, out⟩ := by unfold spStep; simp [show ¬ b = 34 from fun h => c34 (h34.1 h), h92.2 c92]
            rw [ES] at FN
            by_cases hl : i + 1 < s.size
            · have hlb : i + 1 < (bl s).length := by rw [bl_len]; exact hl
              have FN2 := fold_next FN hlb
              have CT2 : sb (own ++ [b]) ++ s.extract (i + 1) (i + 1 + 1) = sb (own ++ [b] ++ [(bl s)[i + 1]]) := by rw [ext_one hlb, sb_app']
              have lb2 : (s.extract (i + 1) (i + 1 + 1)).size = 1 := by rw [ByteArray.size_extract]; omega
              have la2 : (sb (own ++ [b])).size ≤ 1000001 := by rw [sb_size, List.length_append]; simp only [List.length_cons, List.length_nil]; omega
              obtain ⟨b2, hb2⟩ : ∃ z, (bl s)[i + 1] = z := ⟨_, rfl⟩
              rw [hb2] at FN2 CT2
              have HN : Hid (RSp s (i + 2) ⟨own ++ [b] ++ [b2], true, false, out⟩) := ⟨FN2, .inl rfl, by simp only [List.length_append, List.length_cons, List.length_nil]; omega, by simp only; omega⟩
              have g1 : decide ((i : Int) + 1 < (s.size : Int)) = true := decide_eq_true (by omega)
              have g1n : decide (i + 1 < s.size) = true := decide_eq_true hl
              have w2 : IntKind.i64.wrap ((i : Int) + 1 + 1) = (i : Int) + 1 + 1 := IntWalk.i64_in _ (by omega)
              have j0 : (0 : Int) ≤ (i : Int) + 1 := by omega
              have j2 : (i : Int) + 1 ≤ (i : Int) + 1 + 1 := by omega
              have j3 : (i : Int) + 1 + 1 ≤ (s.size : Int) := by omega
              clear FN FN2 ES h34 h92 h44 HI hb hk TO hb2 hlb
              go_wp2_with fail
              go_roundw
              case rel => exact ⟨i + 2, ⟨own ++ [b] ++ [b2], true, false, out⟩, ao, n, cap, rfl, by simp, by first | rfl | simp, by go_num, by omega, HL, HN, HH, HS⟩
              case measure => simp [intOf]; omega
            · have HN : Hid (RSp s (i + 1) ⟨own ++ [b], true, true, out⟩) := ⟨FN, .inr (by omega), by simp only [List.length_append, List.length_cons, List.length_nil]; omega, by simp only; omega⟩
              have g1 : decide ((i : Int) + 1 < (s.size : Int)) = false := decide_eq_false (by omega)
              have g1n : decide (i + 1 < s.size) = false := decide_eq_false hl
              clear FN ES h34 h92 h44 HI hb hk TO
              go_wp2_with fail
              go_roundw
              case rel => exact ⟨i + 1, ⟨own ++ [b], true, true, out⟩, ao, n, cap, rfl, rfl, by first | rfl | simp, by go_num, by omega, HL, HN, HH, HS⟩
              case measure => simp [intOf]; omega
          · clear hal
            have e34 : ((k : Int) == 34) = false := beq_eq_false_iff_ne.2 (by omega)
            have e34n : (k == 34) = false := beq_eq_false_iff_ne.2 (by omega)
            have e92 : ((k : Int) == 92) = false := beq_eq_false_iff_ne.2 (by omega)
            have e92n : (k == 92) = false := beq_eq_false_iff_ne.2 (by omega)
            have ES : spStep ⟨own, true, false, out⟩ b = ⟨own ++ [b], true, false, out⟩ := by unfold spStep; simp [show ¬ b = 34 from fun h => c34 (h34.1 h), show ¬ b = 92 from fun h => c92 (h92.1 h)]
            rw [ES] at FN
            have HN : Hid (RSp s (i + 1) ⟨own ++ [b], true, false, out⟩) := ⟨FN, .inl rfl, by simp only [List.length_append, List.length_cons, List.length_nil]; omega, by simp only; omega⟩
            clear FN ES h34 h92 h44 HI hb hk TO
            go_wp2_with fail
            go_roundw
            case rel => exact ⟨i + 1, ⟨own ++ [b], true, false, out⟩, ao, n, cap, rfl, rfl, by first | rfl | simp, by go_num, by omega, HL, HN, HH, HS⟩
            case measure => simp [intOf]; omega
      | false =>
        by_cases c34 : k = 34
        · clear hal
          have e44 : ((k : Int) == 44) = false := beq_eq_false_iff_ne.2 (by omega)
          have e44n : (k == 44) = false := beq_eq_false_iff_ne.2 (by omega)
          have e92 : ((k : Int) == 92) = false := beq_eq_false_iff_ne.2 (by omega)
          have e92n : (k == 92) = false := beq_eq_false_iff_ne.2 (by omega)
          have e34 : ((k : Int) == 34) = true := by simp; omega
          have e34n : (k == 34) = true := by simpa using c34
          have ES : spStep ⟨own, false, false, out⟩ b = ⟨own ++ [b], true, false, out⟩ := by unfold spStep; simp [h34.2 c34]
          rw [ES] at FN
          have HN : Hid (RSp s (i + 1) ⟨own ++ [b], true, false, out⟩) := ⟨FN, .inl rfl, by simp only [List.length_append, List.length_cons, List.length_nil]; omega, by simp only; omega⟩
          clear FN ES h34 h92 h44 HI hb hk TO
          go_wp2_with fail
          go_roundw
          case rel => exact ⟨i + 1, ⟨own ++ [b], true, false, out⟩, ao, n, cap, rfl, rfl, by first | rfl | simp, by go_num, by omega, HL, HN, HH, HS⟩
          case measure => simp [intOf]; omega
        · by_cases c44 : k = 44
          · have e44 : ((k : Int) == 44) = true := by simp; omega
            have e44n : (k == 44) = true := by simpa using c44
            have ES : spStep ⟨own, false, false, out⟩ b = ⟨[], false, false, addW out own⟩ := by unfold spStep; simp [show ¬ b = 34 from fun h => c34 (h34.1 h), h44.2 c44]
            rw [ES] at FN
            have HN : Hid (RSp s (i + 1) ⟨[], false, false, addW out own⟩) := ⟨FN, .inl rfl, Nat.zero_le _, by simp only; omega⟩
            have AW : Hid (addW out own = if trimL own = [] then out else out ++ [trimL own]) := rfl
            clear FN ES h34 h92 h44 HI hb hk hal CT lb
            go_wp2_with fail
            refine (TO.out _).mono ?_
            rintro e w1 ⟨rfl, h1⟩
            have H1 := Lib.hid (HH.out.grow h1)
            have S1 : Hid (Sm w w1) := HS.out.trans (Sm.of_below h1)
            obtain ⟨t, ht⟩ : ∃ q, trimL own = q := ⟨_, rfl⟩
            rw [ht] at AW ⊢
            clear ht h1 HH HS TO
            by_cases ht0 : t = []
            · have ea := AW.out
              rw [if_pos ht0] at ea
              rw [ea] at HN
              have he : (sb t).toList = [] := by rw [Go.Lib.toList_data, ht0]; rfl
              have he2 : (sb t).toList.isEmpty = true := by rw [he]; rfl
              clear ht0 AW ea
              go_wp2_with fail
              go_roundw
              case rel => exact ⟨i + 1, ⟨[], false, false, out⟩, ao, n, cap, rfl, rfl, rfl, by go_num, by omega, HL, HN, H1, S1⟩
              case measure => simp [intOf]; omega
            · have ea := AW.out
              rw [if_neg ht0] at ea
              rw [ea] at HN
              have he2 : (sb t).toList.isEmpty = false := nonempty_sb ht0
              clear ht0 AW ea
              have HAP := Lib.hid ((H1.out.alloc (.cells #[.string (sb t)] 9)).right)
              have N1 : Hid (out.length + 1 ≤ maxLen) := by show _ ≤ _; unfold maxLen; omega
              have N2 : Hid ((out.length + 1) * 16 ≤ 140737488355328) := by show _ ≤ _; omega
              have S2 := Lib.hid (S1.out.alloc (.cells #[.string (sb t)] 9))
              clear H1 S1
              go_wp2_with (at_builtin; refine wpList_append_one (enc := strE) rfl _ _ 53 rfl 9 (.string ⟨#[]⟩) 1 16 Tryd.underlying53 infoS rfl t rfl HAP.out ⟨w1.heap.size, 0, none⟩ 1 rfl rfl (cells_new w1 #[.string (sb t)] 9 _ rfl) (by simp [strE, Value.oneCell']) N1.out N2.out ?_)
              intro v' w4 h4 s4
              obtain ⟨ao', cap', ev, -⟩ := rowA_slice h4
              obtain ⟨m', hm'⟩ : ∃ q, (out ++ [t]).length = q := ⟨_, rfl⟩
              rw [hm'] at ev
              subst ev
              have H4 := Lib.hid h4
              have S4 := Lib.hid (S2.out.trans s4)
              have HM := Lib.hid hm'.symm
              clear h4 s4 hm' S2 HAP N1 N2
              go_wp2_with fail
              go_roundw
              case rel => exact ⟨i + 1, ⟨[], false, false, out ++ [t]⟩, ao', m', cap', rfl, rfl, rfl, by go_num, by omega, HM, HN, H4, S4⟩
              case measure => simp [intOf]; omega
          · clear hal
            have e34 : ((k : Int) == 34) = false := beq_eq_false_iff_ne.2 (by omega)
            have e34n : (k == 34) = false := beq_eq_false_iff_ne.2 (by omega)
            have e44 : ((k : Int) == 44) = false := beq_eq_false_iff_ne.2 (by omega)
            have e44n : (k == 44) = false := beq_eq_false_iff_ne.2 (by omega)
            have ES : spStep ⟨own, false, false, out⟩ b = ⟨own ++ [b], false, false, out⟩ := by unfold spStep; simp [show ¬ b = 34 from fun h => c34 (h34.1 h), show ¬ b = 44 from fun h => c44 (h44.1 h)]
            rw [ES] at FN
            have HN : Hid (RSp s (i + 1) ⟨own ++ [b], false, false, out⟩) := ⟨FN, .inl rfl, by simp only [List.length_append, List.length_cons, List.length_nil]; omega, by simp only; omega⟩
            clear FN ES h34 h92 h44 HI hb hk TO
            go_wp2_with fail
            go_roundw
            case rel => exact ⟨i + 1, ⟨own ++ [b], false, false, out⟩, ao, n, cap, rfl, rfl, by first | rfl | simp, by go_num, by omega, HL, HN, HH, HS⟩
            case measure => simp [intOf]; omega
    · have est : spL (bl s) = ⟨own, q, se, out⟩ := by
        have h := HI.out.st
        rw [List.take_of_length_le (by rw [bl_len]; omega)] at h
        exact h
      obtain rfl : i = s.size := by omega
      have SP : splitL (bl s) = if q = true then none else some (addW out own) := by
        unfold splitL; rw [est]
      have AW : Hid (addW out own = if trimL own = [] then out else out ++ [trimL own]) := rfl
      clear HI est hal
      cases q with
      | true =>
        rw [if_pos rfl] at SP
        have FINQ : Hid (∀ e w', e = Ending.returned (.tuple #[.slice none 0 0, .bool false]) → Holds w' F → Sm w w' → SplitC s F w e w') := by
          intro e w' h1 h2 h3
          unfold SplitC
          rw [SP]
          exact ⟨h1, h2, h3⟩
        clear SP AW
        go_wp2_with fail
        refine (TO.out _).mono ?_
        rintro e w1 ⟨rfl, h1⟩
        have H1 := Lib.hid (HH.out.grow h1).right
        have S1 : Hid (Sm w w1) := HS.out.trans (Sm.of_below h1)
        clear h1 HH HS TO
        go_wp2_with fail
        go_ret2
        exact FINQ.out _ _ rfl H1.out S1.out
      | false =>
        rw [if_neg (by simp)] at SP
        have FINQ : Hid (∀ ws ao m cap w', addW out own = ws → m = ws.length → Holds w' (rowL 9 1 strE (.slice ao m cap) ws * F) → Sm w w' → SplitC s F w (Ending.returned (.tuple #[.slice ao m cap, .bool true])) w') := by
          rintro ws ao m cap w' h1 rfl h2 h3
          unfold SplitC
          rw [SP, h1]
          exact ⟨ao, cap, cap, rfl, h2, h3⟩
        clear SP
        go_wp2_with fail
        refine (TO.out _).mono ?_
        rintro e w1 ⟨rfl, h1⟩
        have H1 := Lib.hid (HH.out.grow h1)
        have S1 : Hid (Sm w w1) := HS.out.trans (Sm.of_below h1)
        obtain ⟨t, ht⟩ : ∃ q, trimL own = q := ⟨_, rfl⟩
        rw [ht] at AW ⊢
        clear ht h1 HH HS TO
        by_cases ht0 : t = []
        · have he : (sb t).toList = [] := by rw [Go.Lib.toList_data, ht0]; rfl
          have he2 : (sb t).toList.isEmpty = true := by rw [he]; rfl
          have ea : Hid (addW out own = out) := by have h := AW.out; rw [if_pos ht0] at h; exact h
          clear ht0 AW
          go_wp2_with fail
          go_ret2
          exact FINQ.out _ _ _ _ _ ea.out HL.out H1.out S1.out
        · have ea : Hid (addW out own = out ++ [t]) := by have h := AW.out; rw [if_neg ht0] at h; exact h
          have he2 : (sb t).toList.isEmpty = false := nonempty_sb ht0
          clear ht0 AW
          have HAP := Lib.hid ((H1.out.alloc (.cells #[.string (sb t)] 9)).right)
          have N1 : Hid (out.length + 1 ≤ maxLen) := by show _ ≤ _; unfold maxLen; omega
          have N2 : Hid ((out.length + 1) * 16 ≤ 140737488355328) := by show _ ≤ _; omega
          have S2 := Lib.hid (S1.out.alloc (.cells #[.string (sb t)] 9))
          clear H1 S1
          go_wp2_with (at_builtin; refine wpList_append_one (enc := strE) rfl _ _ 53 rfl 9 (.string ⟨#[]⟩) 1 16 Tryd.underlying53 infoS rfl t rfl HAP.out ⟨w1.heap.size, 0, none⟩ 1 rfl rfl (cells_new w1 #[.string (sb t)] 9 _ rfl) (by simp [strE, Value.oneCell']) N1.out N2.out ?_)
          intro v' w4 h4 s4
          obtain ⟨ao', cap', ev, -⟩ := rowA_slice h4
          obtain ⟨m', hm'⟩ : ∃ q, (out ++ [t]).length = q := ⟨_, rfl⟩
          rw [hm'] at ev
          subst ev
          have H4 := Lib.hid h4
          have S4 := Lib.hid (S2.out.trans s4)
          have HM := Lib.hid hm'.symm
          clear h4 s4 hm' S2 HAP N1 N2
          go_wp2_with fail
          go_ret2
          exact FINQ.out _ _ _ _ _ ea.out HM.out H4.out S4.out
#print axioms rsplit_calls
end Go.Proofs.YtefcinifaaablaaDoor.Tok
