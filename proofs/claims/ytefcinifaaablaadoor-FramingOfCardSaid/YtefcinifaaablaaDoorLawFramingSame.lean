/-
  FramingSame, the walk.
-/
import Derived.Test.YtefcinifaaablaaDoorSameN
namespace Go.Proofs.YtefcinifaaablaaDoor.Tok
open Go.RowKit Go.Sep
set_option maxRecDepth 100000
set_option linter.unusedVariables false
set_option linter.unusedSimpArgs false

def fE (q : ByteArray × ByteArray) : List Value := [.string q.1, .string q.2]
theorem fE_len (q : ByteArray × ByteArray) : (fE q).length = 2 := rfl
theorem infoF : (Tryd.prog.info? 28).map (fun i => (i.zero, i.size, i.bytes)) = some (some (.agg #[.string ⟨#[]⟩, .string ⟨#[]⟩]), 2, 32) := by kernel_rfl
theorem fds_row {w : World} {ao : Option Addr} {n cap : Nat} {fs : List (ByteArray × ByteArray)} {F : Asr} (hn : fs.length = n) (h : Holds w (rowL 28 2 fE (.slice ao n cap) fs * F)) : Fds w ao n fs := by
  refine ⟨hn, fun hp => ?_⟩
  obtain ⟨g, cp, e1, -, hg, -, -⟩ := rowL_cell h fE_len 0 (by omega)
  simp only [Value.slice.injEq] at e1
  obtain ⟨rfl, -, -⟩ := e1
  refine ⟨g, 0, rfl, hg, fun i hi => ?_⟩
  obtain ⟨g2, cp2, e2, -, -, hc, -⟩ := rowL_cell h fE_len i hi
  simp only [Value.slice.injEq, Option.some.injEq, Addr.mk.injEq, and_true, true_and] at e2
  obtain ⟨rfl, -⟩ := e2
  have c0 := hc 0 (by omega)
  have c1 := hc 1 (by omega)
  simp only [fE, List.getElem?_cons_zero, List.getElem?_cons_succ, Nat.add_zero] at c0 c1
  rw [Nat.zero_add]
  exact ⟨c0, c1⟩
theorem rowF_mk {w : World} {g : Nat} {cs : Array Value} {fs : List (ByteArray × ByteArray)} {n : Nat} {F : Asr} (h : Holds w (pts g (.cells cs 28 (0, 0)) * F)) (hn : fs.length = n) (h9 : n ≤ 100) (hcs : cs.toList = fs.flatMap fE) : Holds w (rowL 28 2 fE (.slice (some ⟨g, 0, none⟩) n n) fs * F) := by
  unfold rowL
  rw [hn]
  have hl : (fs.flatMap fE).length = n * 2 := by
    rw [← hn]
    clear h hcs hn h9
    induction fs with
    | nil => rfl
    | cons x l ih => rw [List.flatMap_cons, List.length_append, ih, fE_len, List.length_cons]; omega
  have hs : cs.size = n * 2 := by rw [← Array.length_toList, hcs, hl]
  exact rowA_mk' (cap := n) h (Nat.le_refl _) (by unfold maxLen; omega) hs (by rw [← hs, ← Array.length_toList, List.take_length, hcs])
/-- what is left of the law behind the making of the fields -/
structure Out2 (w : World) (fs : List (ByteArray × ByteArray)) (n m : Nat) : Prop where
  ok : FdOk fs
  ok2 : FdOk (fs ++ [teF])
  r1 : frmL 1 fs 0 = frmNM n m
  r2 : frmL 1 (fs ++ [teF]) 0 = ⟨0, 0, 32⟩
theorem outA (w : World) (n m : Nat) (hn : n < 2097152) (hm : m < 2097152) : Out2 w (fsA n m) n m :=
  ⟨by have := okA n m [] (.inl rfl); rwa [List.append_nil] at this, okA n m [teF] (.inr rfl), frmA n m hn hm, frmA2 n m hn hm⟩
theorem outB (w : World) (n m : Nat) (hn : n < 2097152) (hm : m < 2097152) : Out2 w (fsB n m) n m :=
  ⟨by have := okB n m [] (.inl rfl); rwa [List.append_nil] at this, okB n m [teF] (.inr rfl), frmB n m hn hm, frmB2 n m hn hm⟩
set_option maxHeartbeats 8000000 in
theorem same_walk (x y z : Int) (w : World) : Calls Tryd.prog 4 #[.int .i64 x, .int .i64 y, .int .i64 z] w fun e w' => e = .returned (.bool true) ∧ Below w.heap.size w w' := by
  obtain ⟨n, hn, hn9, -⟩ := and_lo 21 (by decide) x
  obtain ⟨m, hm, hm9, -⟩ := and_lo 21 (by decide) y
  obtain ⟨k, hk, hk9, -⟩ := and_lo 1 (by decide) z
  simp only [show (2 ^ 21 - 1 : Nat) = 2097151 from rfl, show (2 ^ 21 : Nat) = 2097152 from rfl, show (2 ^ 1 - 1 : Nat) = 1 from rfl, show (2 ^ 1 : Nat) = 2 from rfl] at hn hm hk hn9 hm9 hk9
  replace hn : bits .and .i64 x 2097151 = n := hn
  replace hm : bits .and .i64 y 2097151 = m := hm
  replace hk : bits .and .i64 z 1 = k := hk
  have NN := Lib.hid (fun (n : Nat) (h : n < 2097152) wq => dnumber_calls 6 n (by omega) (by omega) wq)
  have OA := Lib.hid (outA w n m hn9 hm9)
  have OB := Lib.hid (outB w n m hn9 hm9)
  have NA := Lib.hid (NN.out n hn9)
  have NB := Lib.hid (NN.out m hm9)
  have dsn := decS n
  have dsm := decS m
  have FA : Hid (fsA n m = [(clS, sb (decL n)), (cl2S, sb (decL m))]) := rfl
  have FB : Hid (fsB n m = [(clS, sb (decL n ++ [44, 32, 48] ++ decL m))]) := rfl
  have ea : (sb (decL n) ++ ByteArray.mk #[44, 32, 48]) ++ sb (decL m) = sb (decL n ++ [44, 32, 48] ++ decL m) := by
    rw [← sb_app, ← sb_app]; rfl
  change Hid (∀ wq, Calls _ _ _ wq fun e w' => e = .returned (.string (sb (decL n))) ∧ _) at NA
  change Hid (∀ wq, Calls _ _ _ wq fun e w' => e = .returned (.string (sb (decL m))) ∧ _) at NB
  obtain ⟨dn, hdn⟩ : ∃ q, sb (decL n) = q := ⟨_, rfl⟩
  obtain ⟨dm, hdm⟩ : ∃ q, sb (decL m) = q := ⟨_, rfl⟩
  obtain ⟨db, hdb⟩ : ∃ q, sb (decL n ++ [44, 32, 48] ++ decL m) = q := ⟨_, rfl⟩
  rw [hdn] at NA FA dsn ea
  rw [hdm] at NB FA dsm ea
  rw [hdb] at FB ea
  have HA0 := Lib.hid (holds_all w)
  clear NN hdn hdm hdb
  obtain ⟨bw, hbw⟩ : ∃ bw : Bool, ((k : Int) == 1) = bw ∧ (k == 1) = bw := ⟨k == 1, by
    have : k = 0 ∨ k = 1 := by omega
    rcases this with rfl | rfl <;> rfl, rfl⟩
  obtain ⟨hb1, hb2⟩ := hbw
  go_enter Tryd.func4, Tryd.ntmps4
  go_wp2_with fail
  refine (NA.out _).mono ?_
  rintro e w1 ⟨rfl, b1⟩
  have B1 := Lib.hid b1
  clear b1
  go_wp2_with fail
  refine (NB.out _).mono ?_
  rintro e w2 ⟨rfl, b2⟩
  have B2 : Hid (Below w.heap.size w w2) := B1.out.trans (b2.mono B1.out.size)
  clear b2 B1
  have HF : Hid (Holds (w2.alloc (.cells #[.string clS, .string dn, .string cl2S, .string dm] 28)) (rowL 28 2 fE (.slice (some ⟨w2.heap.size, 0, none⟩) 2 2) (fsA n m) * all w)) := by
    have h := (Holds.grow HA0.out B2.out).alloc (.cells #[.string clS, .string dn, .string cl2S, .string dm] 28)
    exact rowF_mk h (by rw [FA.out]; rfl) (by omega) (by rw [FA.out]; rfl)
  have SF : Hid (Sm w (w2.alloc (.cells #[.string clS, .string dn, .string cl2S, .string dm] 28))) := (Sm.of_below B2.out).alloc _
  unfold clS cl2S at HF SF
  go_upto_if 27 with (fail)
  go_cut [7] (fun x wc => ∃ (fs : List (ByteArray × ByteArray)) (g c : Nat), x = .slice (some ⟨g, 0, none⟩) c c ∧ c = fs.length ∧ Hid (fs.length ≤ 2) ∧ Hid (Out2 w fs n m) ∧ Hid (Holds wc (rowL 28 2 fE (.slice (some ⟨g, 0, none⟩) c c) fs * all w)) ∧ Hid (Sm w wc))
  case first =>
    cases bw with
    | false =>
      go_wp2_with fail
      go_meet
      case rel => exact ⟨fsA n m, w2.heap.size, 2, rfl, by rw [FA.out]; rfl, by rw [FA.out]; exact Nat.le_refl _, OA, HF, SF⟩
    | true =>
      go_wp2_with fail
      refine (NA.out _).mono ?_
      rintro e w3 ⟨rfl, b3⟩
      have B3 : Hid (Sm w w3) := SF.out.trans (Sm.of_below b3)
      have H3 := Lib.hid (Holds.grow HF.out b3)
      clear b3 SF HF
      go_wp2_with fail
      refine (NB.out _).mono ?_
      rintro e w4 ⟨rfl, b4⟩
      have B4 : Hid (Sm w w4) := B3.out.trans (Sm.of_below b4)
      have H4 := Lib.hid (Holds.grow H3.out b4)
      clear b4 B3 H3
      go_wp2_with fail
      go_meet
      case rel =>
        refine ⟨fsB n m, w4.heap.size, 1, rfl, by rw [FB.out]; rfl, ?_, OB, ?_, B4.out.alloc _⟩
        · rw [FB.out]; exact Nat.le_succ 1
        · have h := (Holds.right H4.out).alloc (.cells #[.string clS, .string db] 28)
          have h2 := rowF_mk (n := 1) (fs := fsB n m) h (by rw [FB.out]; rfl) (by omega) (by rw [FB.out]; rfl)
          unfold clS at h2
          exact h2
  case rest =>
    obtain ⟨fs, g, c, rfl, hc', HL, OO, HF2, SF2⟩ := hcut
    have hc := Lib.hid hc'
    clear hc'
    clear hb1 hb2 HF SF NA NB FA FB ea OA OB dsn dsm HA0 hk hk9
    have O1 := Lib.hid (ofreq_calls ⟨#[]⟩ ⟨#[]⟩ 1 (some ⟨g, 0, none⟩) c c fs wc (fds_row hc.out.symm HF2.out) OO.out.ok)
    have r1 := OO.out.r1
    rw [r1] at O1
    clear r1
    have R : Hid (frmNM n m = if n ≠ m then ⟨0, 0, 32⟩ else if 1048576 < n then ⟨0, 0, 3⟩ else ⟨1, n, 0⟩) := rfl
    obtain ⟨⟨k1, n1, e1⟩, hR⟩ : ∃ q, frmNM n m = q := ⟨_, rfl⟩
    rw [hR] at O1 R
    clear hR
    simp only at O1
    go_wp2_with fail
    refine O1.out.mono ?_
    rintro e w5 ⟨rfl, b5⟩
    have S5 : Hid (Sm w w5) := SF2.out.trans (Sm.of_below b5)
    have H5 := Lib.hid (((Holds.grow HF2.out b5).alloc (.cells #[.string teS, .string chS] 28)).eqv (star_left_comm _ _ _))
    have S5b : Hid (Sm w (w5.alloc (.cells #[.string teS, .string chS] 28))) := S5.out.alloc _
    clear b5 S5 HF2 SF2 O1
    unfold teS chS at H5 S5b
    have N1 : Hid (fs.length + 1 ≤ maxLen) := by have := HL.out; show _ ≤ _; unfold maxLen; omega
    have N2 : Hid ((fs.length + 1) * 32 ≤ 140737488355328) := by have := HL.out; show _ ≤ _; omega
    go_wp2_with (at_builtin; refine wpList_append_one (enc := fE) rfl _ _ 29 rfl 28 (.agg #[.string ⟨#[]⟩, .string ⟨#[]⟩]) 2 32 Tryd.underlying29 infoF rfl teF rfl H5.out ⟨w5.heap.size, 0, none⟩ 1 rfl rfl (cells_new w5 #[.string teS, .string chS] 28 _ rfl) (by simp [fE, Value.oneCell']) N1.out N2.out ?_)
    intro v' w6 h6 s6
    obtain ⟨ao, cap, hv, -⟩ := rowA_slice h6
    simp only [List.length_append, List.length_cons, List.length_nil] at hv
    subst hv
    have S6 : Hid (Sm w w6) := S5b.out.trans s6
    have H6 := Lib.hid h6
    have O2 := Lib.hid (ofreq_calls ⟨#[]⟩ ⟨#[]⟩ 1 ao (fs.length + (0 + 1)) cap (fs ++ [teF]) w6 (fds_row (by simp) h6) OO.out.ok2)
    have r2 := OO.out.r2
    rw [r2] at O2
    clear r2 h6 s6 H5 S5b
    simp only at O2
    go_wp2_with fail
    refine O2.out.mono ?_
    rintro e w7 ⟨rfl, b7⟩
    have S7 : Hid (Sm w w7) := S6.out.trans (Sm.of_below b7)
    have H7 := Lib.hid (Holds.grow H6.out b7)
    clear b7 S6 H6 O2
    have FIN := Lib.hid (Holds.below (A := _ * _) (by have := H7.out; rw [← star_assoc] at this; exact this) S7.out)
    clear H7 S7
    by_cases h1 : n = m
    · subst h1
      by_cases h2 : 1048576 < n
      · have r : (⟨k1, n1, e1⟩ : Frm) = ⟨0, 0, 3⟩ := by rw [R.out, if_neg (by simp), if_pos h2]
        cases r
        have d1 : decide (1048576 < (n : Int)) = true := by simp; omega
        have d2 : decide (1048576 < n) = true := by simpa using h2
        have d3 : 1048576 < (n : Int) := by omega
        clear R
        go_wp2_with fail
        go_ret
        exact ⟨rfl, FIN.out⟩
      · have r : (⟨k1, n1, e1⟩ : Frm) = ⟨1, n, 0⟩ := by rw [R.out, if_neg (by simp), if_neg h2]
        cases r
        have d1 : decide (1048576 < (n : Int)) = false := by simp; omega
        have d2 : decide (1048576 < n) = false := by simpa using h2
        have d3 : ¬ 1048576 < (n : Int) := by omega
        clear R
        go_wp2_with fail
        go_ret
        exact ⟨rfl, FIN.out⟩
    · have r : (⟨k1, n1, e1⟩ : Frm) = ⟨0, 0, 32⟩ := by rw [R.out, if_pos h1]
      cases r
      have d1 : ((n : Int) != (m : Int)) = true := by simp; omega
      have d2 : (n != m) = true := by simpa using h1
      clear R
      go_wp2_with fail
      go_ret
      exact ⟨rfl, FIN.out⟩
#print axioms same_walk
end Go.Proofs.YtefcinifaaablaaDoor.Tok
