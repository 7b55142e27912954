/-
  Layer 6: data, length, rest, behind.
-/
import Derived.Test.YtibhnkkfaochhaaDoorDec3
namespace Go.Proofs.YtibhnkkfaochhaaDoor.Dec
open Go.RowKit Go.Sep
open Go.Proofs.YtibhnkkfaochhaaDoor.Tok
set_option maxRecDepth 100000
set_option linter.unusedVariables false
set_option linter.unusedSimpArgs false

def StepC (d : Nat) (S1 : DS) (O1 : List UInt8) (F : Asr) (w : World) (e : Ending) (w' : World) : Prop := e = .returned (.tuple #[]) ∧ Holds w' (decA d S1 O1 * F) ∧ Sm w w'
theorem step1 {S : DS} (c : UInt8) (h : S.st = 1) : dstep S c = ({ S with left := S.left - 1, st := if S.left - 1 = 0 then 2 else 1 }, [c]) := by unfold dstep; rw [if_neg (by omega), if_pos h]
theorem step4 {S : DS} (c : UInt8) (h : S.st = 4) : dstep S c = ({ S with left := S.left - 1, done := decide (S.left - 1 = 0) }, [c]) := by unfold dstep; rw [if_neg (by omega), if_neg (by omega), if_neg (by omega), if_neg (by omega), if_pos h]
theorem step5 {S : DS} (c : UInt8) (h : S.st = 5) : dstep S c = if S.sum = 1048576 then ({ S with e := 3 }, []) else ({ S with sum := S.sum + 1 }, [c]) := by unfold dstep; rw [if_neg (by omega), if_neg (by omega), if_neg (by omega), if_neg (by omega), if_neg (by omega)]
set_option maxHeartbeats 4000000 in
theorem data_calls (d : Nat) (S : DS) (O : List UInt8) (c : UInt8) (hs : S.st = 1) (h1 : 1 ≤ S.left) (h2 : S.left ≤ 1099511627776) (hO : O.length ≤ 1048576) (F : Asr) (w : World) (hw : Holds w (decA d S O * F)) :
    Calls Tryd.prog 17 #[.pointer (some ⟨d, 0, none⟩), .int .u8 (c.toNat : Int)] w (StepC d (dstep S c).1 (O ++ (dstep S c).2) F w) := by
  rw [step1 c hs]
  have PC := Lib.hid (put_calls d S O c hO F w hw)
  obtain ⟨st, left, sum, own, done, e⟩ := S
  simp only at hs h1 h2 ⊢
  subst hs
  obtain ⟨k, rfl⟩ : ∃ k, left = k + 1 := ⟨left - 1, by omega⟩
  rw [Nat.add_sub_cancel]
  clear hw hO
  have z1 : IntKind.i64.wrap (((k + 1 : Nat) : Int) - 1) = (k : Int) := by rw [show ((k + 1 : Nat) : Int) - 1 = k by omega]; exact IntWalk.i64_in _ (by omega)
  have z2 : IntKind.i64.wrap ((k : Int) + 1 - 1) = (k : Int) := by rw [show (k : Int) + 1 - 1 = k by omega]; exact IntWalk.i64_in _ (by omega)
  by_cases hk : k = 0
  · subst hk
    rw [if_pos rfl]
    go_enter Tryd.func17, Tryd.ntmps17
    go_wp2_with fail
    refine (PC.out).mono ?_
    rintro e w2 ⟨rfl, h3, s3⟩
    obtain ⟨vo, vu, h4⟩ := dec_open h3
    obtain ⟨q0, q1, q2, q3, q4, q5, q6, q7, qfz, qlt⟩ := dec_f h4
    simp only at q1 q2 q3 q4 q5 q6 q7
    have S3 := Lib.hid s3
    have HF : Hid (Holds (w2.setCell ⟨d, 2, none⟩ (.int .i64 ((0 : Nat) : Int))) (pts d (.cells (cD ⟨1, 0, sum, own, done, e⟩ vo vu) 47 (0, 0)) * (rowA 5 1 vo own.length (bc own) * (rowA 5 1 vu (O ++ [c]).length (bc (O ++ [c])) * F)))) := h4.store 2 (.int .i64 ((0 : Nat) : Int))
    clear h3 s3 h4 PC
    go_wp2_with fail
    go_end0
    exact ⟨rfl, dec_shut (S := ⟨2, 0, sum, own, done, e⟩) (HF.out.store 1 (.int .i64 2)), (S3.out.setCell _ _).setCell _ _⟩
  · have e1 : ((k : Int) == 0) = false := beq_eq_false_iff_ne.2 (by omega)
    have e2 : (k == 0) = false := by simpa using hk
    rw [if_neg hk]
    go_enter Tryd.func17, Tryd.ntmps17
    go_wp2_with fail
    refine (PC.out).mono ?_
    rintro e w2 ⟨rfl, h3, s3⟩
    obtain ⟨vo, vu, h4⟩ := dec_open h3
    obtain ⟨q0, q1, q2, q3, q4, q5, q6, q7, qfz, qlt⟩ := dec_f h4
    simp only at q1 q2 q3 q4 q5 q6 q7
    have S3 := Lib.hid s3
    have HF : Hid (Holds (w2.setCell ⟨d, 2, none⟩ (.int .i64 (k : Int))) (pts d (.cells (cD ⟨1, k, sum, own, done, e⟩ vo vu) 47 (0, 0)) * (rowA 5 1 vo own.length (bc own) * (rowA 5 1 vu (O ++ [c]).length (bc (O ++ [c])) * F)))) := h4.store 2 (.int .i64 (k : Int))
    clear h3 s3 h4 PC
    go_wp2_with fail
    go_end0
    exact ⟨rfl, dec_shut (S := ⟨1, k, sum, own, done, e⟩) HF.out, S3.out.setCell _ _⟩
#print axioms data_calls
set_option maxHeartbeats 4000000 in
theorem length_calls (d : Nat) (S : DS) (O : List UInt8) (c : UInt8) (hs : S.st = 4) (h1 : 1 ≤ S.left) (h2 : S.left ≤ 1099511627776) (hO : O.length ≤ 1048576) (F : Asr) (w : World) (hw : Holds w (decA d S O * F)) :
    Calls Tryd.prog 20 #[.pointer (some ⟨d, 0, none⟩), .int .u8 (c.toNat : Int)] w (StepC d (dstep S c).1 (O ++ (dstep S c).2) F w) := by
  rw [step4 c hs]
  have PC := Lib.hid (put_calls d S O c hO F w hw)
  obtain ⟨st, left, sum, own, done, e⟩ := S
  simp only at hs h1 h2 ⊢
  subst hs
  obtain ⟨k, rfl⟩ : ∃ k, left = k + 1 := ⟨left - 1, by omega⟩
  rw [Nat.add_sub_cancel]
  obtain ⟨b, hb⟩ : ∃ b : Bool, ((k : Int) == 0) = b ∧ (k == 0) = b ∧ decide (k = 0) = b := ⟨decide (k = 0), by
    by_cases h : k = 0
    · subst h; exact ⟨rfl, rfl, rfl⟩
    · exact ⟨by simp [h], by simp [h], rfl⟩⟩
  obtain ⟨e1, e2, e3⟩ := hb
  rw [e3]
  clear hw hO e3
  go_enter Tryd.func20, Tryd.ntmps20
  go_wp2_with fail
  refine (PC.out).mono ?_
  rintro e w2 ⟨rfl, h3, s3⟩
  obtain ⟨vo, vu, h4⟩ := dec_open h3
  obtain ⟨q0, q1, q2, q3, q4, q5, q6, q7, qfz, qlt⟩ := dec_f h4
  simp only at q1 q2 q3 q4 q5 q6 q7
  have S3 := Lib.hid s3
  have z1 : IntKind.i64.wrap (((k + 1 : Nat) : Int) - 1) = (k : Int) := by rw [show ((k + 1 : Nat) : Int) - 1 = k by omega]; exact IntWalk.i64_in _ (by omega)
  have z2 : IntKind.i64.wrap ((k : Int) + 1 - 1) = (k : Int) := by rw [show (k : Int) + 1 - 1 = k by omega]; exact IntWalk.i64_in _ (by omega)
  have HF : Hid (Holds (w2.setCell ⟨d, 2, none⟩ (.int .i64 (k : Int))) (pts d (.cells (cD ⟨4, k, sum, own, done, e⟩ vo vu) 47 (0, 0)) * (rowA 5 1 vo own.length (bc own) * (rowA 5 1 vu (O ++ [c]).length (bc (O ++ [c])) * F)))) := h4.store 2 (.int .i64 (k : Int))
  clear h3 s3 h4 PC
  go_wp2_with fail
  go_end0
  exact ⟨rfl, dec_shut (S := ⟨4, k, sum, own, b, e⟩) (HF.out.store 6 (.bool b)), (S3.out.setCell _ _).setCell _ _⟩
#print axioms length_calls
set_option maxHeartbeats 4000000 in
theorem rest_calls (d : Nat) (S : DS) (O : List UInt8) (c : UInt8) (hs : S.st = 5) (h2 : S.sum ≤ 1048576) (hO : O.length ≤ 1048576) (F : Asr) (w : World) (hw : Holds w (decA d S O * F)) :
    Calls Tryd.prog 21 #[.pointer (some ⟨d, 0, none⟩), .int .u8 (c.toNat : Int)] w (StepC d (dstep S c).1 (O ++ (dstep S c).2) F w) := by
  rw [step5 c hs]
  obtain ⟨st, left, sum, own, done, e⟩ := S
  simp only at hs h2 ⊢
  subst hs
  obtain ⟨vo, vu, h4⟩ := dec_open hw
  obtain ⟨q0, q1, q2, q3, q4, q5, q6, q7, qfz, qlt⟩ := dec_f h4
  simp only at q1 q2 q3 q4 q5 q6 q7
  by_cases hk : sum = 1048576
  · rw [if_pos hk]
    subst hk
    have H4 := Lib.hid h4
    clear hw h4
    go_enter Tryd.func21, Tryd.ntmps21
    go_wp2_with fail
    go_end0
    refine ⟨rfl, ?_, (Sm.refl w).setCell _ _⟩
    exact dec_shut (S := ⟨5, left, 1048576, own, done, 3⟩) (H4.out.store 7 (.int .i64 3))
  · rw [if_neg hk]
    have HF : Hid (Holds (w.setCell ⟨d, 3, none⟩ (.int .i64 ((sum : Int) + 1))) (decA d ⟨5, left, sum + 1, own, done, e⟩ O * F)) := dec_shut (S := ⟨5, left, sum + 1, own, done, e⟩) (h4.store 3 (.int .i64 ((sum : Int) + 1)))
    have PC := Lib.hid (put_calls d ⟨5, left, sum + 1, own, done, e⟩ O c hO F _ HF.out)
    have e1 : ((sum : Int) == 1048576) = false := beq_eq_false_iff_ne.2 (by omega)
    have e2 : (sum == 1048576) = false := by simpa using hk
    have S1 : Hid (Sm w (w.setCell ⟨d, 3, none⟩ (.int .i64 ((sum : Int) + 1)))) := (Sm.refl w).setCell _ _
    clear hw h4 HF hO
    go_enter Tryd.func21, Tryd.ntmps21
    go_wp2_with fail
    refine (PC.out).mono ?_
    rintro e w2 ⟨rfl, h3, s3⟩
    have H3 := Lib.hid h3
    have S3 : Hid (Sm w w2) := S1.out.trans s3
    clear h3 s3 PC S1
    go_wp2_with fail
    go_end0
    exact ⟨rfl, H3.out, S3.out⟩
#print axioms rest_calls
theorem step2 {S : DS} (c : UInt8) (h : S.st = 2) : dstep S c = onLine S c dbehind := by unfold dstep; rw [if_neg (by omega), if_neg (by omega), if_pos h]
theorem onLine_none {S : DS} {c : UInt8} {f : DS → List UInt8 → DS} {S1 : DS} (h : dline S c = (S1, none)) : onLine S c f = (S1, []) := by unfold onLine; rw [h]
theorem onLine_some {S : DS} {c : UInt8} {f : DS → List UInt8 → DS} {S1 : DS} {s : List UInt8} (h : dline S c = (S1, some s)) : onLine S c f = (f S1 s, []) := by unfold onLine; rw [h]
set_option maxHeartbeats 4000000 in
theorem behind_calls (d : Nat) (S : DS) (O : List UInt8) (c : UInt8) (hs : S.st = 2) (hown : S.own.length ≤ 1025) (F : Asr) (w : World) (hw : Holds w (decA d S O * F)) :
    Calls Tryd.prog 18 #[.pointer (some ⟨d, 0, none⟩), .int .u8 (c.toNat : Int)] w (StepC d (dstep S c).1 (O ++ (dstep S c).2) F w) := by
  rw [step2 c hs]
  have LC := Lib.hid (line_calls d S O c hown F w hw)
  unfold LineC at LC
  obtain ⟨⟨S1, r⟩, hdl⟩ : ∃ q, dline S c = q := ⟨_, rfl⟩
  rw [hdl] at LC
  cases r with
  | none =>
    rw [onLine_none hdl, List.append_nil]
    simp only [Option.getD, Option.isSome] at LC
    clear hdl hw hown hs
    go_enter Tryd.func18, Tryd.ntmps18
    go_wp2_with fail
    refine (LC.out).mono ?_
    rintro e w2 ⟨rfl, h3, s3⟩
    have H3 := Lib.hid h3
    have S3 := Lib.hid s3
    clear h3 s3 LC
    go_wp2_with fail
    exact bodyPost_ret (v := .tuple #[]) (by simp [results, Tryd.results18]) rfl ⟨rfl, H3.out, S3.out⟩
  | some s =>
    rw [onLine_some hdl, List.append_nil]
    simp only [Option.getD, Option.isSome] at LC
    clear hdl hw hown hs
    obtain ⟨st, left, sum, own, done, e⟩ := S1
    unfold dbehind
    by_cases h0 : s = []
    · subst h0
      rw [if_neg (by simp)]
      have e0 : ((sb []).toList == []) = true := by rw [Go.Lib.toList_data]; rfl
      have e1 : ((sb []).toList != []) = false := by rw [Go.Lib.toList_data]; rfl
      go_enter Tryd.func18, Tryd.ntmps18
      go_wp2_with fail
      refine (LC.out).mono ?_
      rintro e w2 ⟨rfl, h3, s3⟩
      obtain ⟨vo, vu, h4⟩ := dec_open h3
      obtain ⟨q0, q1, q2, q3, q4, q5, q6, q7, qfz, qlt⟩ := dec_f h4
      simp only at q1 q2 q3 q4 q5 q6 q7
      have H4 := Lib.hid h4
      have S3 := Lib.hid s3
      clear h3 s3 h4 LC
      go_wp2_with fail
      go_end0
      exact ⟨rfl, dec_shut (S := ⟨0, left, sum, own, done, e⟩) (H4.out.store 1 (.int .i64 0)), S3.out.setCell _ _⟩
    · rw [if_pos h0]
      have e0 : ((sb s).toList == []) = false := by rw [Go.Lib.toList_data]; exact beq_eq_false_iff_ne.2 (by rw [show (sb s).data.toList = s from bl_sb s]; exact h0)
      have e1 : ((sb s).toList != []) = true := by show (!_) = true; rw [e0]; rfl
      clear h0
      go_enter Tryd.func18, Tryd.ntmps18
      go_wp2_with fail
      refine (LC.out).mono ?_
      rintro e w2 ⟨rfl, h3, s3⟩
      obtain ⟨vo, vu, h4⟩ := dec_open h3
      obtain ⟨q0, q1, q2, q3, q4, q5, q6, q7, qfz, qlt⟩ := dec_f h4
      simp only at q1 q2 q3 q4 q5 q6 q7
      have H4 := Lib.hid h4
      have S3 := Lib.hid s3
      clear h3 s3 h4 LC
      go_wp2_with fail
      go_end0
      exact ⟨rfl, dec_shut (S := ⟨0, left, sum, own, done, 32⟩) ((H4.out.store 7 (.int .i64 32)).store 1 (.int .i64 0)), (S3.out.setCell _ _).setCell _ _⟩
#print axioms behind_calls
end Go.Proofs.YtibhnkkfaochhaaDoor.Dec
