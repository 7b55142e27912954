/-
  Layer 6: line.
-/
import Derived.Test.YtibhnkkfaochhaaDoorDec2
import Derived.BigQuiet
import Derived.Laws.IdiomStrings
namespace Go.Proofs.YtibhnkkfaochhaaDoor.Dec
open Go.RowKit Go.Sep
open Go.Proofs.YtibhnkkfaochhaaDoor.Tok
set_option maxRecDepth 100000
set_option linter.unusedVariables false
set_option linter.unusedSimpArgs false

theorem trimSuf (l : List UInt8) : Go.Lib.trimSuffix l [13] = stripL (l ++ [10]) := by
  unfold Go.Lib.trimSuffix Go.Lib.hasSuffix stripL
  rw [List.dropLast_concat]
  rcases List.eq_nil_or_concat l with rfl | ⟨k, x, rfl⟩
  · rfl
  · rw [List.concat_eq_append, List.dropLast_concat]
    by_cases hx : x = 13
    · subst hx
      have h1 : [13].isSuffixOf (k ++ [(13 : UInt8)]) = true := by rw [List.isSuffixOf_iff_suffix]; exact List.suffix_append _ _
      rw [if_pos h1, if_pos (by simp)]
      simp
    · have h1 : ¬ [13].isSuffixOf (k ++ [x]) = true := by
        rw [List.isSuffixOf_iff_suffix]
        rintro ⟨t, ht⟩
        have := List.append_inj_right' ht rfl
        simp at this
        exact hx this.symm
      rw [if_neg h1, if_neg (by simpa using hx)]
theorem row_zero {w : World} {T : TypeId} {n g cap : Nat} {xs : List Value} {F : Asr} (h : Holds w (rowA T 1 (.slice (some ⟨g, 0, none⟩) n cap) n xs * F)) : Holds w (rowA T 1 (.slice (some ⟨g, 0, none⟩) 0 cap) 0 [] * F) := by
  rcases (rowA_cases h).2 with ⟨h1, -, -⟩ | ⟨g2, cap2, cur, e, h1, h2, h3, -, h4⟩
  · cases h1
  · simp only [Value.slice.injEq, Option.some.injEq, Addr.mk.injEq, and_true, true_and] at e
    obtain ⟨rfl, rfl⟩ := e
    exact rowA_mk' h4 (Nat.zero_le _) h2 h3 (by simp)
def LineC (d : Nat) (S1 : DS) (r : Option (List UInt8)) (O : List UInt8) (F : Asr) (w : World) (e : Ending) (w' : World) : Prop := e = .returned (.tuple #[.string (sb (r.getD [])), .bool r.isSome]) ∧ Holds w' (decA d S1 O * F) ∧ Sm w w'
set_option maxHeartbeats 4000000 in
theorem line_calls (d : Nat) (S : DS) (O : List UInt8) (c : UInt8) (hown : S.own.length ≤ 1025) (F : Asr) (w : World) (hw : Holds w (decA d S O * F)) :
    Calls Tryd.prog 24 #[.pointer (some ⟨d, 0, none⟩), .int .u8 (c.toNat : Int)] w (LineC d (dline S c).1 (dline S c).2 O F w) := by
  obtain ⟨vo, vu, h1⟩ := dec_open hw
  obtain ⟨c0, c1, c2, c3, c4, c5, c6, c7, fz, lt⟩ := dec_f h1
  have HA := Lib.hid (((h1.alloc (.cells #[.int .u8 (c.toNat : Int)] 5)).right).eqv (by ac_rfl : _ = rowA 5 1 vo S.own.length (bc S.own) * (pts d (.cells (cD S vo vu) 47 (0, 0)) * (rowA 5 1 vu O.length (bc O) * F))))
  have SA : Hid (Sm w (w.alloc (.cells #[.int .u8 (c.toNat : Int)] 5))) := (Sm.refl w).alloc _
  obtain ⟨st, left, sum, own, done, e⟩ := S
  simp only at hown HA c1 c2 c3 c4 c6 c7
  obtain ⟨k, hk⟩ : ∃ k, own.length = k := ⟨_, rfl⟩
  have HK := Lib.hid hk
  rw [hk] at HA hown
  have M1 : Hid (k + 1 ≤ maxLen) := by show _ ≤ _; unfold maxLen; omega
  have M2 : Hid ((k + 1) * 1 ≤ 140737488355328) := by show _ ≤ _; omega
  have hap : (own ++ [c]).length = k + 1 := by rw [List.length_append, hk]; rfl
  have HDL : Hid (dline ⟨st, left, sum, own, done, e⟩ c = if 1025 < k + 1 then (⟨st, left, sum, own ++ [c], done, 3⟩, none) else if c ≠ 10 then (⟨st, left, sum, own ++ [c], done, e⟩, none) else (⟨st, left, sum, [], done, e⟩, some (stripL (own ++ [c])))) := by
    show _ = _
    unfold dline
    simp only [hap]
  obtain ⟨⟨S1, r⟩, hdl⟩ : ∃ q, dline ⟨st, left, sum, own, done, e⟩ c = q := ⟨_, rfl⟩
  rw [hdl] at HDL ⊢
  simp only at HDL ⊢
  clear hw h1 c0 c1 c2 c3 c5 c6 c7 hdl hk hap
  go_enter Tryd.func24, Tryd.ntmps24
  go_wp2_with (at_builtin; first | (refine wpList_append_sep rfl _ _ 22 rfl 5 (.int .u8 0) 1 1 Tryd.underlying22 infoB rfl rfl HA.out ⟨w.heap.size, 0, none⟩ 1 1 [.int .u8 (c.toNat : Int)] rfl rfl (cells_new w _ 5 _ rfl) (by simp [Value.oneCell']) M1.out M2.out ?_))
  intro v' w2 h2 s2 hvv
  clear hvv
  rw [bc_snoc] at h2
  obtain ⟨g, cp', rfl, -, hg, hcell, -⟩ := rowA_cell h2 (by omega)
  have h3 := h2.eqv (star_left_comm _ _ _)
  have f3 := dec_f h3
  obtain ⟨q0, q1, q2, q3, q4, q5, q6, q7, qfz, qlt⟩ := f3
  simp only at q1 q2 q3 q4 q5 q6 q7
  have h4 := h3.store 4 (.slice (some ⟨g, 0, none⟩) (k + 1) cp')
  have H4 : Hid (Holds (w2.setCell ⟨d, 4, none⟩ (.slice (some ⟨g, 0, none⟩) (k + 1) cp')) (pts d (.cells (cD ⟨st, left, sum, own ++ [c], done, e⟩ (.slice (some ⟨g, 0, none⟩) (k + 1) cp') vu) 47 (0, 0)) * (rowA 5 1 (.slice (some ⟨g, 0, none⟩) (k + 1) cp') (k + 1) (bc (own ++ [c])) * (rowA 5 1 vu O.length (bc O) * F)))) := h4
  have S4 : Hid (Sm w (w2.setCell ⟨d, 4, none⟩ (.slice (some ⟨g, 0, none⟩) (k + 1) cp'))) := (SA.out.trans s2).setCell _ _
  clear h2 s2 h3 h4 HA SA c4 fz lt hcell
  by_cases hbig : 1025 < k + 1
  · have hr : S1 = ⟨st, left, sum, own ++ [c], done, 3⟩ ∧ r = none := by have h := HDL.out; rw [if_pos hbig] at h; simpa using h
    obtain ⟨rfl, rfl⟩ := hr
    have t1 : decide ((1025 : Int) < ((k + 1 : Nat) : Int)) = true := decide_eq_true (by omega)
    have t2 : decide ((1025 : Int) < (k : Int) + 1) = true := decide_eq_true (by omega)
    have t3 : decide (1025 < k + 1) = true := decide_eq_true hbig
    clear HDL
    go_wp2_with fail
    go_ret2
    exact ⟨rfl, dec_shut (S := ⟨st, left, sum, own ++ [c], done, 3⟩) (vo := .slice (some ⟨g, 0, none⟩) (k + 1) cp') (vu := vu) ((H4.out.store 7 (.int .i64 3)).eqv (by rw [show (own ++ [c]).length = k + 1 by rw [List.length_append, HK.out]; rfl]; rfl)), S4.out.setCell _ _⟩
  · have t1 : decide ((1025 : Int) < ((k + 1 : Nat) : Int)) = false := decide_eq_false (by omega)
    have t2 : decide ((1025 : Int) < (k : Int) + 1) = false := decide_eq_false (by omega)
    have t3 : decide (1025 < k + 1) = false := decide_eq_false hbig
    by_cases hc : c = 10
    · subst hc
      have hr : S1 = ⟨st, left, sum, [], done, e⟩ ∧ r = some (stripL (own ++ [10])) := by have h := HDL.out; rw [if_neg hbig, if_neg (by simp)] at h; simpa using h
      obtain ⟨rfl, rfl⟩ := hr
      clear HDL
      have s1 : IntKind.i64.wrap ((k : Int) + 1 - 1) = (k : Int) := by rw [show (k : Int) + 1 - 1 = k by omega]; exact IntWalk.i64_in _ (by omega)
      obtain ⟨g2, cp2, e1, -, -, hcc, -⟩ := rowA_cell (H4.out.eqv (star_left_comm _ _ _)) (by omega)
      simp only [Value.slice.injEq, Option.some.injEq, Addr.mk.injEq, and_true, true_and] at e1
      obtain ⟨rfl, rfl⟩ := e1
      obtain ⟨W4, hW4⟩ : ∃ W9, w2.setCell ⟨d, 4, none⟩ (.slice (some ⟨g, 0, none⟩) (k + 1) cp') = W9 := ⟨_, rfl⟩
      rw [hW4] at hcc H4 S4
      have CV : ∀ n, (convert 22 9 (.slice (some ⟨g, 0, none⟩) k cp')).run Tryd.prog (W4.drewN n) = .ok (.string (sb own)) (W4.drewN n) := by
        intro n
        have := run_convert_bytes_back (P := Tryd.prog) (W4.drewN n) 22 9 5 ⟨g, 0, none⟩ cp' own Tryd.underlying22 Tryd.underlying5 Tryd.underlying9 (fun j hj => by
          rw [Addr.add_lit, Nat.zero_add]
          show W4.cell? ⟨g, j, none⟩ = _
          rw [hcc j (by rw [HK.out] at hj; omega)]
          simp [bc, List.getElem?_append_left, hj])
        rw [HK.out] at this
        exact this
      have hsz : (sb own).size ≤ 9223372036854775807 := by rw [sb_size, HK.out]; omega
      have TS : Hid (∀ wq : World, Calls Tryd.prog 31 #[.string (sb own), .string ⟨#[13]⟩] wq fun e w' => e = .returned (.string (sb (stripL (own ++ [10])))) ∧ w' = wq) := by
        intro wq
        have h := Any.strings_TrimSuffix Tryd.lays102 (sb own) ⟨#[13]⟩ wq hsz
        rw [← trimSuf]
        have e2 : (sb own).data.toList = own := bl_sb own
        rw [e2] at h
        exact h
      obtain ⟨f0, f1, f2, f3, f4, f5, f6, f7, ffz, flt⟩ := dec_f H4.out
      have K4 : ∀ n, (W4.drewN n).cell? ⟨d, 4, none⟩ = some (.slice (some ⟨g, 0, none⟩) (k + 1) cp') := fun n => f4
      have hkc : k + 1 ≤ cp' := by obtain ⟨_, _, e3, hle⟩ := rowA_slice (H4.out.eqv (star_left_comm _ _ _)); simp only [Value.slice.injEq] at e3; omega
      clear hcc hsz
      subst hW4
      go_wp2_with fail
      go_quiet ((go_at_call 31; exact Calls.quiet_of_same (TS.out _)))
      go_wp2_with fail
      go_ret2
      have hF := (H4.out.drewN nq).store 4 (.slice (some ⟨g, 0, none⟩) 0 cp')
      have hF2 := row_zero (hF.eqv (star_left_comm _ _ _))
      exact ⟨rfl, dec_shut (S := ⟨st, left, sum, [], done, e⟩) (vo := .slice (some ⟨g, 0, none⟩) 0 cp') (vu := vu) (hF2.eqv (star_left_comm _ _ _)), (S4.out.drewN nq).setCell _ _⟩
    · have hr : S1 = ⟨st, left, sum, own ++ [c], done, e⟩ ∧ r = none := by have h := HDL.out; rw [if_neg hbig, if_pos hc] at h; simpa using h
      obtain ⟨rfl, rfl⟩ := hr
      have hcn : c.toNat ≠ 10 := fun h => hc (UInt8.toNat_inj.1 h)
      have u1 : ((c.toNat : Int) != 10) = true := by simp; omega
      have u2 : (c.toNat != 10) = true := by simpa using hcn
      clear HDL hc
      go_wp2_with fail
      go_ret2
      exact ⟨rfl, dec_shut (S := ⟨st, left, sum, own ++ [c], done, e⟩) (vo := .slice (some ⟨g, 0, none⟩) (k + 1) cp') (vu := vu) (H4.out.eqv (by rw [show (own ++ [c]).length = k + 1 by rw [List.length_append, HK.out]; rfl])), S4.out⟩
#print axioms line_calls
end Go.Proofs.YtibhnkkfaochhaaDoor.Dec
