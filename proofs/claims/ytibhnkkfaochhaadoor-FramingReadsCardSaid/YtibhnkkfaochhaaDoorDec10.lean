/-
  Layer 6: the decoder's steps at a line's end: size, fields.
-/
import Derived.Test.YtibhnkkfaochhaaDoorDec9
namespace Go.Proofs.YtibhnkkfaochhaaDoor.Dec
open Go.RowKit Go.Sep
open Go.Proofs.YtibhnkkfaochhaaDoor.Tok
set_option maxRecDepth 100000
set_option linter.unusedVariables false
set_option linter.unusedSimpArgs false

/-- what is held beside keeps the errors' variables -/
def KeepV (F : Asr) : Prop := ∀ (A : Asr) (wq : World), Holds wq (A * F) → Vars wq
theorem keepV_all {w0 : World} (h : Vars w0) : KeepV (all w0) := by
  intro A wq hq
  obtain ⟨⟨e1, h1, k1⟩, ⟨e2, h2, k2⟩⟩ := h
  exact ⟨⟨e1, all_cell hq h1, k1⟩, ⟨e2, all_cell hq h2, k2⟩⟩
theorem keepV_star {F G : Asr} (h : KeepV F) : KeepV (G * F) := fun A wq hq => h (A * G) wq (hq.eqv (star_assoc _ _ _).symm)
theorem dline_some {S S1 : DS} {c : UInt8} {s : List UInt8} (h : dline S c = (S1, some s)) : S1 = { S with own := [] } ∧ s = stripL (S.own ++ [c]) := by
  unfold dline at h
  split at h
  · simp at h
  · split at h
    · simp at h
    · simp only [Prod.mk.injEq, Option.some.injEq] at h
      exact ⟨h.1.symm, h.2.symm⟩
theorem strip_le (l : List UInt8) : (stripL l).length ≤ l.length := by
  unfold stripL
  split
  · simp; omega
  · simp
theorem step0 {S : DS} (c : UInt8) (h : S.st = 0) : dstep S c = onLine S c dsize := by unfold dstep; rw [if_pos h]
theorem step3 {S : DS} (c : UInt8) (h : S.st = 3) : dstep S c = onLine S c dfields := by unfold dstep; rw [if_neg (by omega), if_neg (by omega), if_neg (by omega), if_pos h]
set_option maxHeartbeats 4000000 in
theorem fields_calls (d : Nat) (S : DS) (O : List UInt8) (c : UInt8) (hs : S.st = 3) (hown : S.own.length ≤ 1025) (F : Asr) (w : World) (hw : Holds w (decA d S O * F)) :
    Calls Tryd.prog 19 #[.pointer (some ⟨d, 0, none⟩), .int .u8 (c.toNat : Int)] w (StepC d (dstep S c).1 (O ++ (dstep S c).2) F w) := by
  rw [step3 c hs]
  have LC := Lib.hid (line_calls d S O c hown F w hw)
  unfold LineC at LC
  obtain ⟨⟨S1, r⟩, hdl⟩ : ∃ q, dline S c = q := ⟨_, rfl⟩
  rw [hdl] at LC
  cases r with
  | none =>
    rw [onLine_none hdl, List.append_nil]
    simp only [Option.getD, Option.isSome] at LC
    clear hdl hw hown hs
    go_enter Tryd.func19, Tryd.ntmps19
    go_wp2_with fail
    refine (LC.out).mono ?_
    rintro e w2 ⟨rfl, h3, s3⟩
    have H3 := Lib.hid h3
    have S3 := Lib.hid s3
    clear h3 s3 LC
    go_wp2_with fail
    go_end0
    exact ⟨rfl, H3.out, S3.out⟩
  | some s =>
    have hsl : s.length ≤ 1048576 := by
      rw [(dline_some hdl).2]
      have := strip_le (S.own ++ [c])
      simp at this
      omega
    rw [onLine_some hdl, List.append_nil]
    simp only [Option.getD, Option.isSome] at LC
    have PC := Lib.hid (fun wq => parse_calls (sb s) (by rw [sb_size]; exact hsl) wq)
    rw [bl_sb] at PC
    clear hdl hw hown hs hsl
    obtain ⟨st, left, sum, own, done, e⟩ := S1
    unfold dfields
    by_cases h0 : s = []
    · subst h0
      rw [if_pos rfl]
      have e0 : ((sb []).toList == []) = true := by rw [Go.Lib.toList_data]; rfl
      clear PC
      go_enter Tryd.func19, Tryd.ntmps19
      go_wp2_with fail
      refine (LC.out).mono ?_
      rintro e w2 ⟨rfl, h3, s3⟩
      obtain ⟨vo, vu, h4⟩ := dec_open h3
      obtain ⟨q0, q1, q2, q3, q4, q5, q6, q7, qfz, qlt⟩ := dec_f h4
      simp only at q1 q2 q3 q4 q5 q6 q7
      have H4 := Lib.hid h4
      have S3 := Lib.hid s3
      clear h3 s3 h4 LC
      go_wp2_with fail
      go_end0
      exact ⟨rfl, dec_shut (S := ⟨st, left, sum, own, true, e⟩) (H4.out.store 6 (.bool true)), S3.out.setCell _ _⟩
    · rw [if_neg h0]
      have e0 : ((sb s).toList == []) = false := by rw [Go.Lib.toList_data]; exact beq_eq_false_iff_ne.2 (by rw [show (sb s).data.toList = s from bl_sb s]; exact h0)
      obtain ⟨z, hz⟩ : ∃ z : Nat, (if parseL s = true then 0 else 31) = z := ⟨_, rfl⟩
      have hzi : (if parseL s = true then (0 : Int) else 31) = (z : Int) := by rw [← hz]; split <;> rfl
      rw [hzi] at PC
      rw [hz]
      clear h0 hz hzi
      go_enter Tryd.func19, Tryd.ntmps19
      go_wp2_with fail
      refine (LC.out).mono ?_
      rintro e w2 ⟨rfl, h3, s3⟩
      have H3 := Lib.hid h3
      have S3 := Lib.hid s3
      clear h3 s3 LC
      go_wp2_with fail
      refine (PC.out _).mono ?_
      rintro e w3 ⟨⟨v, rfl⟩, b3⟩
      obtain ⟨vo, vu, h4⟩ := dec_open (H3.out.grow b3)
      obtain ⟨q0, q1, q2, q3, q4, q5, q6, q7, qfz, qlt⟩ := dec_f h4
      simp only at q1 q2 q3 q4 q5 q6 q7
      have H4 := Lib.hid h4
      have S4 : Hid (Sm w w3) := S3.out.trans (Sm.of_below b3)
      clear h4 PC H3 S3 b3
      go_wp2_with fail
      go_end0
      exact ⟨rfl, dec_shut (S := ⟨st, left, sum, own, done, z⟩) (H4.out.store 7 (.int .i64 (z : Int))), S4.out.setCell _ _⟩
#print axioms fields_calls
set_option maxHeartbeats 8000000 in
theorem dsz_calls (d : Nat) (S : DS) (O : List UInt8) (c : UInt8) (hs : S.st = 0) (hsum : S.sum ≤ 1048576) (hown : S.own.length ≤ 1025) (F : Asr) (hV : KeepV F) (w : World) (hw : Holds w (decA d S O * F)) :
    Calls Tryd.prog 16 #[.pointer (some ⟨d, 0, none⟩), .int .u8 (c.toNat : Int)] w (StepC d (dstep S c).1 (O ++ (dstep S c).2) F w) := by
  rw [step0 c hs]
  have LC := Lib.hid (line_calls d S O c hown F w hw)
  unfold LineC at LC
  have HV := Lib.hid hV
  obtain ⟨⟨S1, r⟩, hdl⟩ : ∃ q, dline S c = q := ⟨_, rfl⟩
  rw [hdl] at LC
  cases r with
  | none =>
    rw [onLine_none hdl, List.append_nil]
    simp only [Option.getD, Option.isSome] at LC
    clear hdl hw hown hs hsum hV
    go_enter Tryd.func16, Tryd.ntmps16
    go_wp2_with fail
    refine (LC.out).mono ?_
    rintro e w2 ⟨rfl, h3, s3⟩
    have H3 := Lib.hid h3
    have S3 := Lib.hid s3
    clear h3 s3 LC
    go_wp2_with fail
    exact bodyPost_ret (v := .tuple #[]) (by simp [results, Tryd.results16]) rfl ⟨rfl, H3.out, S3.out⟩
  | some s =>
    have hsl : s.length ≤ 1048576 := by
      rw [(dline_some hdl).2]
      have := strip_le (S.own ++ [c])
      simp at this
      omega
    have hs1 : S1.sum ≤ 1048576 := by rw [(dline_some hdl).1]; exact hsum
    rw [onLine_some hdl, List.append_nil]
    simp only [Option.getD, Option.isSome] at LC
    have SC := Lib.hid (fun wq (hv : Vars wq) => size_calls (sb s) (by rw [sb_size]; exact hsl) wq hv)
    rw [bl_sb] at SC
    unfold SizeC at SC
    clear hdl hw hown hs hsl hsum hV
    obtain ⟨st, left, sum, own, done, e⟩ := S1
    simp only at hs1
    unfold dsize
    have x1 : IntKind.i64.wrap (1048576 - (sum : Int)) = 1048576 - (sum : Int) := IntWalk.i64_in _ (by omega)
    cases hz : sizeL s with
    | none =>
      rw [hz] at SC
      simp only [Option.getD, Option.isSome] at SC ⊢
      clear hz
      go_enter Tryd.func16, Tryd.ntmps16
      go_wp2_with fail
      refine (LC.out).mono ?_
      rintro e w2 ⟨rfl, h3, s3⟩
      have H3 := Lib.hid h3
      have S3 := Lib.hid s3
      have SC2 := Lib.hid (SC.out w2 (HV.out _ _ h3))
      clear h3 s3 LC SC
      go_wp2_with fail
      refine (SC2.out).mono ?_
      rintro e w3 ⟨rfl, b3⟩
      obtain ⟨vo, vu, h4⟩ := dec_open (H3.out.grow b3)
      obtain ⟨q0, q1, q2, q3, q4, q5, q6, q7, qfz, qlt⟩ := dec_f h4
      simp only at q1 q2 q3 q4 q5 q6 q7
      have H4 := Lib.hid h4
      have S4 : Hid (Sm w w3) := S3.out.trans (Sm.of_below b3)
      clear h4 SC2 H3 S3 b3
      go_wp2_with fail
      go_end0
      exact ⟨rfl, dec_shut (S := ⟨st, left, sum, own, done, 32⟩) (H4.out.store 7 (.int .i64 32)), S4.out.setCell _ _⟩
    | some n =>
      rw [hz] at SC
      simp only [Option.getD, Option.isSome] at SC ⊢
      have hn9 : n < 4294967296 := by
        rw [sizeL_eq] at hz
        split at hz
        · cases hz
        · rename_i hk
          split at hz
          · cases hz
          · split at hz
            · have := Option.some.inj hz
              rw [← this]
              have h1 := hexN_lt (s.take (hexK s)) 0 0 (by decide) (hexK_hex s)
              rw [Nat.zero_add] at h1
              refine Nat.lt_of_lt_of_le h1 (Nat.le_trans (Nat.pow_le_pow_right (by omega) (?_ : _ ≤ 8)) (by decide))
              rw [List.length_take]
              omega
            · cases hz
      clear hz
      by_cases hb : 1048576 - sum < n
      · rw [if_pos hb]
        have y1 : decide (1048576 - (sum : Int) < (n : Int)) = true := decide_eq_true (by omega)
        clear hb
        go_enter Tryd.func16, Tryd.ntmps16
        go_wp2_with fail
        refine (LC.out).mono ?_
        rintro e w2 ⟨rfl, h3, s3⟩
        have H3 := Lib.hid h3
        have S3 := Lib.hid s3
        have SC2 := Lib.hid (SC.out w2 (HV.out _ _ h3))
        clear h3 s3 LC SC
        go_wp2_with fail
        refine (SC2.out).mono ?_
        rintro e w3 ⟨rfl, b3⟩
        obtain ⟨vo, vu, h4⟩ := dec_open (H3.out.grow b3)
        obtain ⟨q0, q1, q2, q3, q4, q5, q6, q7, qfz, qlt⟩ := dec_f h4
        simp only at q1 q2 q3 q4 q5 q6 q7
        have H4 := Lib.hid h4
        have S4 : Hid (Sm w w3) := S3.out.trans (Sm.of_below b3)
        clear h4 SC2 H3 S3 b3
        go_wp2_with fail
        go_end0
        exact ⟨rfl, dec_shut (S := ⟨st, left, sum, own, done, 3⟩) (H4.out.store 7 (.int .i64 3)), S4.out.setCell _ _⟩
      · rw [if_neg hb]
        have y1 : decide (1048576 - (sum : Int) < (n : Int)) = false := decide_eq_false (by omega)
        clear hb
        by_cases h0 : n = 0
        · subst h0
          rw [if_pos rfl]
          go_enter Tryd.func16, Tryd.ntmps16
          go_wp2_with fail
          refine (LC.out).mono ?_
          rintro e w2 ⟨rfl, h3, s3⟩
          have H3 := Lib.hid h3
          have S3 := Lib.hid s3
          have SC2 := Lib.hid (SC.out w2 (HV.out _ _ h3))
          clear h3 s3 LC SC
          go_wp2_with fail
          refine (SC2.out).mono ?_
          rintro e w3 ⟨rfl, b3⟩
          obtain ⟨vo, vu, h4⟩ := dec_open (H3.out.grow b3)
          obtain ⟨q0, q1, q2, q3, q4, q5, q6, q7, qfz, qlt⟩ := dec_f h4
          simp only at q1 q2 q3 q4 q5 q6 q7
          have H4 := Lib.hid h4
          have S4 : Hid (Sm w w3) := S3.out.trans (Sm.of_below b3)
          clear h4 SC2 H3 S3 b3
          go_wp2_with fail
          go_end0
          exact ⟨rfl, dec_shut (S := ⟨3, left, sum, own, done, e⟩) (H4.out.store 1 (.int .i64 3)), S4.out.setCell _ _⟩
        · rw [if_neg h0]
          have y2 : ((n : Int) == 0) = false := beq_eq_false_iff_ne.2 (by omega)
          have y3 : (n == 0) = false := beq_eq_false_iff_ne.2 h0
          have y4 : IntKind.i64.wrap ((sum : Int) + (n : Int)) = ((sum + n : Nat) : Int) := by rw [IntWalk.i64_in _ (by omega)]; omega
          clear h0
          go_enter Tryd.func16, Tryd.ntmps16
          go_wp2_with fail
          refine (LC.out).mono ?_
          rintro e w2 ⟨rfl, h3, s3⟩
          have H3 := Lib.hid h3
          have S3 := Lib.hid s3
          have SC2 := Lib.hid (SC.out w2 (HV.out _ _ h3))
          clear h3 s3 LC SC
          go_wp2_with fail
          refine (SC2.out).mono ?_
          rintro e w3 ⟨rfl, b3⟩
          obtain ⟨vo, vu, h4⟩ := dec_open (H3.out.grow b3)
          obtain ⟨q0, q1, q2, q3, q4, q5, q6, q7, qfz, qlt⟩ := dec_f h4
          simp only at q1 q2 q3 q4 q5 q6 q7
          have H4 := Lib.hid h4
          have S4 : Hid (Sm w w3) := S3.out.trans (Sm.of_below b3)
          clear h4 SC2 H3 S3 b3
          go_wp2_with fail
          go_end0
          exact ⟨rfl, dec_shut (S := ⟨1, n, sum + n, own, done, e⟩) (((H4.out.store 3 (.int .i64 ((sum + n : Nat) : Int))).store 2 (.int .i64 (n : Int))).store 1 (.int .i64 1)), ((S4.out.setCell _ _).setCell _ _).setCell _ _⟩
#print axioms dsz_calls
end Go.Proofs.YtibhnkkfaochhaaDoor.Dec
