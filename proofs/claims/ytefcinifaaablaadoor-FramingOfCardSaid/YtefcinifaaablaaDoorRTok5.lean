/-
  The document's layer 4: Get, Names.
-/
import Derived.Test.YtefcinifaaablaaDoorRTok4
import Derived.Test.YtefcinifaaablaaDoorTok7
namespace Go.Proofs.YtefcinifaaablaaDoor.Tok
open Go.RowKit Go.Sep
set_option maxRecDepth 100000
set_option linter.unusedVariables false
set_option linter.unusedSimpArgs false

theorem joinTail_app (r b : List (List UInt8)) : Go.Lib.joinTail [44, 32] (r ++ b) = Go.Lib.joinTail [44, 32] r ++ Go.Lib.joinTail [44, 32] b := by simp [Go.Lib.joinTail]
theorem joinL_snoc (ws : List (List UInt8)) (v : List UInt8) : joinL (ws ++ [v]) = if ws = [] then v else joinL ws ++ [44, 32] ++ v := by
  cases ws with
  | nil => rw [if_pos rfl]; unfold joinL; rw [List.nil_append, Go.Lib.join_one]
  | cons x r =>
    rw [if_neg (by simp)]
    unfold joinL
    rw [List.cons_append, Go.Lib.join_cons, Go.Lib.join_cons, joinTail_app]
    simp [Go.Lib.joinTail]
theorem joinL_pre (a b : List (List UInt8)) : (joinL a).length ≤ (joinL (a ++ b)).length := by
  cases a with
  | nil => unfold joinL; rw [Go.Lib.join_nil]; exact Nat.zero_le _
  | cons x r =>
    unfold joinL
    rw [List.cons_append, Go.Lib.join_cons, Go.Lib.join_cons, joinTail_app]
    simp only [List.length_append]
    omega
theorem getV_app (name : ByteArray) (a b : List (ByteArray × ByteArray)) : getV name (a ++ b) = getV name a ++ getV name b := by unfold getV; rw [List.filter_append, List.map_append]
theorem getV_take (name : ByteArray) (fs : List (ByteArray × ByteArray)) (i : Nat) : (joinL (getV name (fs.take i))).length ≤ (joinL (getV name fs)).length := by
  have := joinL_pre (getV name (fs.take i)) (getV name (fs.drop i))
  rwa [← getV_app, List.take_append_drop] at this
set_option maxHeartbeats 4000000 in
theorem rget_calls (ao : Option Addr) (n cap : Nat) (fs : List (ByteArray × ByteArray)) (name : ByteArray) (w : World) (hF : Fds w ao n fs) (hs : ∀ f ∈ fs, f.1.size ≤ 1048576) (hn : name.size ≤ 1048576) (h9 : n ≤ 100000) (hj : (joinL (getV name fs)).length ≤ 1000000) :
    Calls Tryd.prog 24 #[.slice ao n cap, .string name] w fun e w' => e = .returned (.tuple #[.string (sb (joinL (getV name fs))), .int .i64 ((getV name fs).length : Nat)]) ∧ Below w.heap.size w w' := by
  have HF := Lib.hid hF
  have HS := Lib.hid hs
  have HJ : Hid (∀ i, (joinL (getV name (fs.take i))).length ≤ 1000000) := fun i => Nat.le_trans (getV_take name fs i) hj
  have hl := hF.len
  clear hF hs hj
  obtain ⟨R, hR⟩ : ∃ q, getV name fs = q := ⟨_, rfl⟩
  have HR := Lib.hid hR
  rw [hR]
  clear hR
  go_enter Tryd.func24, Tryd.ntmps24
  go_wp2_with fail
  go_loopw [6, 7, 8] (fun z y x wl => ∃ (i m : Nat) (ws : List (List UInt8)), x = .int .i64 i ∧ y = .int .i64 m ∧ z = .string (sb (joinL ws)) ∧ i ≤ n ∧ Hid (ws.length = m) ∧ m ≤ i ∧ Hid (getV name (fs.take i) = ws) ∧ Hid (Below w.heap.size w wl)) (fun _ _ x _ => n - (intOf x).toNat)
  case atStart => exact ⟨0, 0, [], rfl, rfl, rfl, Nat.zero_le _, rfl, Nat.le_refl _, rfl, Below.refl _ _⟩
  case round =>
    obtain ⟨i, m, ws, rfl, rfl, rfl, hi, HM, hmi, HG, HB⟩ := hrel
    by_cases hin : i < n
    · have hif : i < fs.length := by omega
      obtain ⟨b, off, rfl, hb, hc⟩ := (HF.out.grow HB.out).cell (by omega)
      obtain ⟨c0, c1⟩ := hc i hif
      have hsz := HS.out fs[i] (List.getElem_mem hif)
      have HT : Hid (fs.take (i + 1) = fs.take i ++ [fs[i]]) := List.take_succ_eq_append_getElem hif
      obtain ⟨⟨nm, vl⟩, hf⟩ : ∃ q, fs[i] = q := ⟨_, rfl⟩
      rw [hf] at c0 c1 hsz HT
      simp only at c0 c1 hsz
      have i0 : (0 : Int) ≤ (i : Int) := by omega
      have i1 : (i : Int) < (n : Int) := by omega
      have SC := Lib.hid (fun wq => rsame_calls nm name hsz hn wq)
      clear hc hf
      cases hsm : sameB nm name with
      | false =>
        rw [hsm] at SC
        have HN : Hid (getV name (fs.take (i + 1)) = ws) := by
          show _ = _
          rw [HT.out, ← HG.out]; unfold getV; rw [List.filter_append]; simp [hsm]
        clear hsm
        go_wp2_with fail
        refine (SC.out _).mono ?_
        rintro e w2 ⟨rfl, b2⟩
        have B2 : Hid (Below w.heap.size w w2) := HB.out.trans (b2.mono HB.out.size)
        clear b2 SC
        go_wp2_with fail
        go_roundw
        case rel => exact ⟨i + 1, m, ws, by go_num, rfl, rfl, by omega, HM, by omega, HN, B2⟩
        case measure => simp [intOf]; omega
      | true =>
        rw [hsm] at SC
        have hN : getV name (fs.take (i + 1)) = ws ++ [bl vl] := by
          rw [HT.out, ← HG.out]; unfold getV; rw [List.filter_append]; simp [hsm]
        have HN := Lib.hid hN
        have hj2 := HJ.out (i + 1)
        rw [hN] at hj2
        have hjs := joinL_snoc ws (bl vl)
        have HM2 : Hid ((ws ++ [bl vl]).length = m + 1) := by show _ = _; rw [List.length_append, HM.out]; rfl
        obtain ⟨J2, hJ2⟩ : ∃ q, joinL (ws ++ [bl vl]) = q := ⟨_, rfl⟩
        have HJ2 := Lib.hid hJ2
        rw [hJ2] at hj2 hjs
        have hmw : ws = [] ↔ m = 0 := by rw [← HM.out]; exact List.length_eq_zero_iff.symm
        obtain ⟨J1, hJ1⟩ : ∃ q, joinL ws = q := ⟨_, rfl⟩
        have HJ1 := Lib.hid hJ1
        rw [hJ1] at hjs ⊢
        clear hsm hN hJ2
        by_cases hm0 : m = 0
        · have g0 : decide ((0 : Int) < (m : Int)) = false := decide_eq_false (by omega)
          have g1 : decide (0 < m) = false := decide_eq_false (by omega)
          rw [if_pos (hmw.2 hm0)] at hjs
          have hJ0 : J1 = [] := by rw [← hJ1, hmw.2 hm0]; rfl
          have CT : sb J1 ++ vl = sb J2 := by rw [hjs, hJ0]; apply bl_inj; simp [bl, sb, ByteArray.data_append]
          have la : (sb J1).size ≤ 1000000 := by rw [hJ0]; decide
          have lb : vl.size ≤ 1000000 := by rw [← bl_len, ← hjs]; exact hj2
          clear hJ0 hjs hJ1 hmw hm0
          go_wp2_with fail
          refine (SC.out _).mono ?_
          rintro e w2 ⟨rfl, b2⟩
          have d0 : w2.cell? ⟨b, off + i * 2 + 1, none⟩ = some (.string vl) := (b2.cell (p := ⟨b, off + i * 2 + 1, none⟩) hb).trans c1
          have hb2 : b < w2.heap.size := Nat.lt_of_lt_of_le hb b2.size
          have B2 : Hid (Below w.heap.size w w2) := HB.out.trans (b2.mono HB.out.size)
          clear b2 SC
          go_wp2_with fail
          go_roundw
          case rel => exact ⟨i + 1, m + 1, _, by go_num, by go_num, by rw [HJ2.out], by omega, HM2, by omega, HN, B2⟩
          case measure => simp [intOf]; omega
        · have g0 : decide ((0 : Int) < (m : Int)) = true := decide_eq_true (by omega)
          have g1 : decide (0 < m) = true := decide_eq_true (by omega)
          rw [if_neg (fun h => hm0 (hmw.1 h))] at hjs
          have hjl : J1.length + 2 + (bl vl).length ≤ 1000000 := by rw [hjs] at hj2; simp only [List.length_append, List.length_cons, List.length_nil] at hj2; omega
          rw [bl_len] at hjl
          have CT1 : sb J1 ++ ⟨#[44, 32]⟩ = sb (J1 ++ [44, 32]) := sb_app' J1 [44, 32]
          have CT2 : sb (J1 ++ [44, 32]) ++ vl = sb J2 := by rw [hjs]; apply bl_inj; simp [bl, sb, ByteArray.data_append]
          have la : (sb J1).size ≤ 1000000 := by rw [sb_size]; omega
          have la2 : (sb (J1 ++ [44, 32])).size ≤ 1000000 := by rw [sb_size]; simp only [List.length_append, List.length_cons, List.length_nil]; omega
          have lb : vl.size ≤ 1000000 := by omega
          have hm8 := Lib.hid hm0
          clear hjs hJ1 hmw hjl hj2 hm0
          go_wp2_with fail
          refine (SC.out _).mono ?_
          rintro e w2 ⟨rfl, b2⟩
          have d0 : w2.cell? ⟨b, off + i * 2 + 1, none⟩ = some (.string vl) := (b2.cell (p := ⟨b, off + i * 2 + 1, none⟩) hb).trans c1
          have hb2 : b < w2.heap.size := Nat.lt_of_lt_of_le hb b2.size
          have B2 : Hid (Below w.heap.size w w2) := HB.out.trans (b2.mono HB.out.size)
          clear b2 SC
          go_wp2_with fail
          go_roundw
          case rel => exact ⟨i + 1, m + 1, _, by go_num, by go_num, by rw [HJ2.out], by omega, HM2, by omega, HN, B2⟩
          case measure => simp [intOf]; omega
    · obtain rfl : i = n := by omega
      have e9 : ws = R := by
        have h := HG.out
        rw [List.take_of_length_le (by omega), HR.out] at h
        exact h.symm
      subst e9
      have hm := HM.out
      clear HG HR
      go_wp2_with fail
      go_ret2
      exact ⟨by rw [hm]; rfl, HB.out⟩
#print axioms rget_calls
end Go.Proofs.YtefcinifaaablaaDoor.Tok
