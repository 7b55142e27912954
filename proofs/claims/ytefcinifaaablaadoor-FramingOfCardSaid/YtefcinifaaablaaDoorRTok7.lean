/-
  The document's layer 6: of, OfRequest, OfResponse (printed by gen/rtok7.py).
-/
import Derived.Test.YtefcinifaaablaaDoorRTok6
import Derived.Test.YtefcinifaaablaaDoorTok8
namespace Go.Proofs.YtefcinifaaablaaDoor.Tok
open Go.RowKit Go.Sep
set_option maxRecDepth 100000
set_option linter.unusedVariables false
set_option linter.unusedSimpArgs false

def te2S : ByteArray := ⟨#[116, 114, 97, 110, 115, 102, 101, 114, 45, 101, 110, 99, 111, 100, 105, 110, 103]⟩
theorem getV_te2 (fs : List (ByteArray × ByteArray)) : getV te2S fs = getV teS fs := getV_low (by decide) fs
theorem namesL_te2 (fs : List (ByteArray × ByteArray)) : namesL te2S fs = namesL teS fs := by unfold namesL; rw [getV_te2]
set_option maxHeartbeats 8000000 in
theorem rof_calls (minor : Int) (ao : Option Addr) (n cap : Nat) (fs : List (ByteArray × ByteArray)) (last : Nat) (w : World) (hF : Fds w ao n fs) (hO : FdOk fs) :
    Calls Tryd.prog 18 #[.int .i64 minor, .slice ao n cap, .int .i64 last] w fun e w' => e = .returned (.tuple #[.int .i64 (frmL minor fs last).k, .int .i64 (frmL minor fs last).n, .int .i64 (frmL minor fs last).e]) ∧ Below w.heap.size w w' := by
  have LC := Lib.hid (rlength_calls ao n cap fs w hF hO)
  have GG : Hid (∀ wq, Below w.heap.size w wq → _) := fun wq hq => rget_calls ao n cap fs te2S wq (hF.grow hq) hO.nm (by decide) (by have := hF.len; have := hO.n; omega) (by have := hO.j te2S; omega)
  have NN : Hid (∀ wq, Below w.heap.size w wq → _) := fun wq hq => rnames_calls ao n cap fs te2S (by decide) wq (hF.grow hq) hO
  have HR : Hid (frmL minor fs last = if getV teS fs ≠ [] then (if minor = 0 ∨ (lenL fs).has = true ∨ namesL teS fs ≠ some [chunkedL] then ⟨0, 0, 32⟩ else ⟨2, 0, 0⟩)
    else if (lenL fs).e ≠ 0 then ⟨0, 0, (lenL fs).e⟩ else if (lenL fs).has = true then ⟨1, (lenL fs).n, 0⟩ else ⟨last, 0, 0⟩) := rfl
  obtain ⟨R, hR⟩ : ∃ q, frmL minor fs last = q := ⟨_, rfl⟩
  rw [hR] at HR ⊢
  obtain ⟨⟨ln, lh, le⟩, hL⟩ : ∃ q, lenL fs = q := ⟨_, rfl⟩
  rw [hL] at HR LC
  obtain ⟨V, hV⟩ : ∃ q, getV teS fs = q := ⟨_, rfl⟩
  rw [getV_te2, hV] at GG
  rw [hV] at HR
  obtain ⟨O, hO2⟩ : ∃ q, namesL teS fs = q := ⟨_, rfl⟩
  rw [namesL_te2, hO2] at NN
  rw [hO2] at HR
  obtain ⟨vn, hvn⟩ : ∃ q, V.length = q := ⟨_, rfl⟩
  rw [hvn] at GG
  obtain ⟨J, hJ⟩ : ∃ q, joinL V = q := ⟨_, rfl⟩
  rw [hJ] at GG
  unfold te2S at GG NN
  simp only at HR LC
  clear hF hO hR hL hV hO2 hJ
  by_cases h0 : V = []
  · have hr : R = if le ≠ 0 then ⟨0, 0, le⟩ else if lh = true then ⟨1, ln, 0⟩ else ⟨last, 0, 0⟩ := by have h := HR.out; rw [if_neg (by simp [h0])] at h; exact h
    have hv0 : vn = 0 := by rw [← hvn, h0]; rfl
    subst hv0
    clear HR h0 hvn NN
    by_cases he : le = 0
    · rw [if_neg (by simp [he])] at hr
      have e1 : ((le : Int) != 0) = false := by simp [he]
      have e1n : (le != 0) = false := by simp [he]
      clear he
      cases lh with
      | true =>
        rw [if_pos rfl] at hr
        subst hr
        go_enter Tryd.func18, Tryd.ntmps18
        go_wp2_with fail
        refine (LC.out).mono ?_
        rintro e w1 ⟨rfl, b1⟩
        have B1 := Lib.hid b1
        have GC := Lib.hid (GG.out w1 b1)
        clear b1 LC
        go_wp2_with fail
        refine (GC.out).mono ?_
        rintro e w2 ⟨rfl, b2⟩
        have B2 : Hid (Below w.heap.size w w2) := B1.out.trans (b2.mono B1.out.size)
        clear b2 GC GG B1
        go_wp2_with fail
        go_ret3
        exact ⟨rfl, B2.out⟩
      | false =>
        rw [if_neg (by simp)] at hr
        subst hr
        go_enter Tryd.func18, Tryd.ntmps18
        go_wp2_with fail
        refine (LC.out).mono ?_
        rintro e w1 ⟨rfl, b1⟩
        have B1 := Lib.hid b1
        have GC := Lib.hid (GG.out w1 b1)
        clear b1 LC
        go_wp2_with fail
        refine (GC.out).mono ?_
        rintro e w2 ⟨rfl, b2⟩
        have B2 : Hid (Below w.heap.size w w2) := B1.out.trans (b2.mono B1.out.size)
        clear b2 GC GG B1
        go_wp2_with fail
        go_ret3
        exact ⟨rfl, B2.out⟩
    · rw [if_pos (by simpa using he)] at hr
      have e1 : ((le : Int) != 0) = true := by simp; omega
      have e1n : (le != 0) = true := by simpa using he
      clear he
      subst hr
      go_enter Tryd.func18, Tryd.ntmps18
      go_wp2_with fail
      refine (LC.out).mono ?_
      rintro e w1 ⟨rfl, b1⟩
      have B1 := Lib.hid b1
      have GC := Lib.hid (GG.out w1 b1)
      clear b1 LC
      go_wp2_with fail
      refine (GC.out).mono ?_
      rintro e w2 ⟨rfl, b2⟩
      have B2 : Hid (Below w.heap.size w w2) := B1.out.trans (b2.mono B1.out.size)
      clear b2 GC GG B1
      go_wp2_with fail
      go_ret3
      exact ⟨rfl, B2.out⟩
  · have hr : R = if minor = 0 ∨ lh = true ∨ O ≠ some [chunkedL] then ⟨0, 0, 32⟩ else ⟨2, 0, 0⟩ := by have h := HR.out; rw [if_pos h0] at h; exact h
    have hv1 : ¬ vn = 0 := fun h => h0 (List.eq_nil_of_length_eq_zero (hvn.trans h))
    have v1 : decide ((0 : Int) < (vn : Int)) = true := by simp; omega
    have v1n : decide (0 < vn) = true := by simp; omega
    have v2 : 0 < vn := by omega
    clear HR h0 hvn hv1
    cases hOO : O with
    | none =>
      subst hOO
      rw [if_pos (.inr (.inr (by simp)))] at hr
      subst hr
      unfold NamesC at NN
      by_cases hm : minor = 0
      · have m1 : (minor == 0) = true := by simp [hm]
        clear hm
        go_enter Tryd.func18, Tryd.ntmps18
        go_wp2_with fail
        refine (LC.out).mono ?_
        rintro e w1 ⟨rfl, b1⟩
        have B1 := Lib.hid b1
        have GC := Lib.hid (GG.out w1 b1)
        clear b1 LC
        go_wp2_with fail
        refine (GC.out).mono ?_
        rintro e w2 ⟨rfl, b2⟩
        have B2 : Hid (Below w.heap.size w w2) := B1.out.trans (b2.mono B1.out.size)
        clear b2 GC GG B1
        have NC := Lib.hid (NN.out w2 B2.out)
        go_wp2_with fail
        refine (NC.out).mono ?_
        intro e w3 hnc
        have ⟨he, b3⟩ : e = .returned (.tuple #[.slice none 0 0, .bool false]) ∧ Below w2.heap.size w2 w3 := hnc
        subst he
        have B3 : Hid (Below w.heap.size w w3) := B2.out.trans (b3.mono B2.out.size)
        clear b3 hnc NC NN
        go_wp2_with fail
        go_ret3
        exact ⟨rfl, B3.out⟩
      · have m1 : (minor == 0) = false := by simpa using hm
        clear hm
        cases lh with
        | true =>
          go_enter Tryd.func18, Tryd.ntmps18
          go_wp2_with fail
          refine (LC.out).mono ?_
          rintro e w1 ⟨rfl, b1⟩
          have B1 := Lib.hid b1
          have GC := Lib.hid (GG.out w1 b1)
          clear b1 LC
          go_wp2_with fail
          refine (GC.out).mono ?_
          rintro e w2 ⟨rfl, b2⟩
          have B2 : Hid (Below w.heap.size w w2) := B1.out.trans (b2.mono B1.out.size)
          clear b2 GC GG B1
          have NC := Lib.hid (NN.out w2 B2.out)
          go_wp2_with fail
          refine (NC.out).mono ?_
          intro e w3 hnc
          have ⟨he, b3⟩ : e = .returned (.tuple #[.slice none 0 0, .bool false]) ∧ Below w2.heap.size w2 w3 := hnc
          subst he
          have B3 : Hid (Below w.heap.size w w3) := B2.out.trans (b3.mono B2.out.size)
          clear b3 hnc NC NN
          go_wp2_with fail
          go_ret3
          exact ⟨rfl, B3.out⟩
        | false =>
          go_enter Tryd.func18, Tryd.ntmps18
          go_wp2_with fail
          refine (LC.out).mono ?_
          rintro e w1 ⟨rfl, b1⟩
          have B1 := Lib.hid b1
          have GC := Lib.hid (GG.out w1 b1)
          clear b1 LC
          go_wp2_with fail
          refine (GC.out).mono ?_
          rintro e w2 ⟨rfl, b2⟩
          have B2 : Hid (Below w.heap.size w w2) := B1.out.trans (b2.mono B1.out.size)
          clear b2 GC GG B1
          have NC := Lib.hid (NN.out w2 B2.out)
          go_wp2_with fail
          refine (NC.out).mono ?_
          intro e w3 hnc
          have ⟨he, b3⟩ : e = .returned (.tuple #[.slice none 0 0, .bool false]) ∧ Below w2.heap.size w2 w3 := hnc
          subst he
          have B3 : Hid (Below w.heap.size w w3) := B2.out.trans (b3.mono B2.out.size)
          clear b3 hnc NC NN
          go_wp2_with fail
          go_ret3
          exact ⟨rfl, B3.out⟩
    | some ns =>
      subst hOO
      unfold NamesC at NN
      by_cases hm : minor = 0
      · have m1 : (minor == 0) = true := by simp [hm]
        rw [if_pos (.inl hm)] at hr
        subst hr
        clear hm
        go_enter Tryd.func18, Tryd.ntmps18
        go_wp2_with fail
        refine (LC.out).mono ?_
        rintro e w1 ⟨rfl, b1⟩
        have B1 := Lib.hid b1
        have GC := Lib.hid (GG.out w1 b1)
        clear b1 LC
        go_wp2_with fail
        refine (GC.out).mono ?_
        rintro e w2 ⟨rfl, b2⟩
        have B2 : Hid (Below w.heap.size w w2) := B1.out.trans (b2.mono B1.out.size)
        clear b2 GC GG B1
        have NC := Lib.hid (NN.out w2 B2.out)
        go_wp2_with fail
        refine (NC.out).mono ?_
        intro e w3 hnc
        obtain ⟨a4, c4, he, h4, s4⟩ : ∃ ao c, e = .returned (.tuple #[.slice ao ns.length c, .bool true]) ∧ Holds w3 (rowL 9 1 strE (.slice ao ns.length c) ns * all w2) ∧ Sm w2 w3 := hnc
        subst he
        have H4 := Lib.hid h4
        have B3 : Hid (Below w.heap.size w w3) := B2.out.trans ((Holds.below h4 s4).mono B2.out.size)
        clear h4 s4 NC NN
        go_wp2_with fail
        go_ret3
        exact ⟨rfl, B3.out⟩
      · have m1 : (minor == 0) = false := by simpa using hm
        cases lh with
        | true =>
          rw [if_pos (.inr (.inl rfl))] at hr
          subst hr
          clear hm
          go_enter Tryd.func18, Tryd.ntmps18
          go_wp2_with fail
          refine (LC.out).mono ?_
          rintro e w1 ⟨rfl, b1⟩
          have B1 := Lib.hid b1
          have GC := Lib.hid (GG.out w1 b1)
          clear b1 LC
          go_wp2_with fail
          refine (GC.out).mono ?_
          rintro e w2 ⟨rfl, b2⟩
          have B2 : Hid (Below w.heap.size w w2) := B1.out.trans (b2.mono B1.out.size)
          clear b2 GC GG B1
          have NC := Lib.hid (NN.out w2 B2.out)
          go_wp2_with fail
          refine (NC.out).mono ?_
          intro e w3 hnc
          obtain ⟨a4, c4, he, h4, s4⟩ : ∃ ao c, e = .returned (.tuple #[.slice ao ns.length c, .bool true]) ∧ Holds w3 (rowL 9 1 strE (.slice ao ns.length c) ns * all w2) ∧ Sm w2 w3 := hnc
          subst he
          have H4 := Lib.hid h4
          have B3 : Hid (Below w.heap.size w w3) := B2.out.trans ((Holds.below h4 s4).mono B2.out.size)
          clear h4 s4 NC NN
          go_wp2_with fail
          go_ret3
          exact ⟨rfl, B3.out⟩
        | false =>
          by_cases hl : ns.length = 1
          · obtain ⟨x, rfl⟩ : ∃ x, ns = [x] := List.length_eq_one_iff.1 hl
            by_cases hx : x = chunkedL
            · rw [if_neg (by simp [hm, hx])] at hr
              subst hr
              clear hm hl
              go_enter Tryd.func18, Tryd.ntmps18
              go_wp2_with fail
              refine (LC.out).mono ?_
              rintro e w1 ⟨rfl, b1⟩
              have B1 := Lib.hid b1
              have GC := Lib.hid (GG.out w1 b1)
              clear b1 LC
              go_wp2_with fail
              refine (GC.out).mono ?_
              rintro e w2 ⟨rfl, b2⟩
              have B2 : Hid (Below w.heap.size w w2) := B1.out.trans (b2.mono B1.out.size)
              clear b2 GC GG B1
              have NC := Lib.hid (NN.out w2 B2.out)
              go_wp2_with fail
              refine (NC.out).mono ?_
              intro e w3 hnc
              obtain ⟨a4, c4, he, h4, s4⟩ : ∃ ao c, e = .returned (.tuple #[.slice ao [x].length c, .bool true]) ∧ Holds w3 (rowL 9 1 strE (.slice ao [x].length c) [x] * all w2) ∧ Sm w2 w3 := hnc
              subst he
              have H4 := Lib.hid h4
              have B3 : Hid (Below w.heap.size w w3) := B2.out.trans ((Holds.below h4 s4).mono B2.out.size)
              clear h4 s4 NC NN
              obtain ⟨g, cp, e9, -, hg, hrc, -⟩ := rowL_cell H4.out strE_len 0 (by simp)
              simp only [List.length_cons, List.length_nil, Nat.zero_add, Value.slice.injEq, true_and] at e9
              obtain ⟨rfl, rfl⟩ := e9
              have c0 := hrc 0 (by omega)
              simp only [List.getElem_cons_zero, strE, Nat.zero_mul, Nat.add_zero, List.getElem?_cons_zero] at c0
              have ch : (ByteArray.mk #[99, 104, 117, 110, 107, 101, 100]).toList = chunkedL := by rw [Go.Lib.toList_data]; rfl
              have xx : (sb x).toList = x := by rw [Go.Lib.toList_data]; exact bl_sb x
              have xc : ((sb x).toList == [99, 104, 117, 110, 107, 101, 100]) = true := by rw [xx, hx]; rfl
              clear hrc ch xx H4 hx
              go_wp2_with fail
              go_ret3
              exact ⟨rfl, B3.out⟩
            · rw [if_pos (.inr (.inr (by simpa using hx)))] at hr
              subst hr
              clear hm hl
              go_enter Tryd.func18, Tryd.ntmps18
              go_wp2_with fail
              refine (LC.out).mono ?_
              rintro e w1 ⟨rfl, b1⟩
              have B1 := Lib.hid b1
              have GC := Lib.hid (GG.out w1 b1)
              clear b1 LC
              go_wp2_with fail
              refine (GC.out).mono ?_
              rintro e w2 ⟨rfl, b2⟩
              have B2 : Hid (Below w.heap.size w w2) := B1.out.trans (b2.mono B1.out.size)
              clear b2 GC GG B1
              have NC := Lib.hid (NN.out w2 B2.out)
              go_wp2_with fail
              refine (NC.out).mono ?_
              intro e w3 hnc
              obtain ⟨a4, c4, he, h4, s4⟩ : ∃ ao c, e = .returned (.tuple #[.slice ao [x].length c, .bool true]) ∧ Holds w3 (rowL 9 1 strE (.slice ao [x].length c) [x] * all w2) ∧ Sm w2 w3 := hnc
              subst he
              have H4 := Lib.hid h4
              have B3 : Hid (Below w.heap.size w w3) := B2.out.trans ((Holds.below h4 s4).mono B2.out.size)
              clear h4 s4 NC NN
              obtain ⟨g, cp, e9, -, hg, hrc, -⟩ := rowL_cell H4.out strE_len 0 (by simp)
              simp only [List.length_cons, List.length_nil, Nat.zero_add, Value.slice.injEq, true_and] at e9
              obtain ⟨rfl, rfl⟩ := e9
              have c0 := hrc 0 (by omega)
              simp only [List.getElem_cons_zero, strE, Nat.zero_mul, Nat.add_zero, List.getElem?_cons_zero] at c0
              have ch : (ByteArray.mk #[99, 104, 117, 110, 107, 101, 100]).toList = chunkedL := by rw [Go.Lib.toList_data]; rfl
              have xx : (sb x).toList = x := by rw [Go.Lib.toList_data]; exact bl_sb x
              have xc : ((sb x).toList == [99, 104, 117, 110, 107, 101, 100]) = false := by rw [xx]; exact beq_eq_false_iff_ne.2 hx
              clear hrc ch xx H4 hx
              go_wp2_with fail
              go_ret3
              exact ⟨rfl, B3.out⟩
          · rw [if_pos (.inr (.inr (by intro h; rw [Option.some.inj h] at hl; simp at hl)))] at hr
            subst hr
            obtain ⟨k, hk⟩ : ∃ q, ns.length = q := ⟨_, rfl⟩
            have HKK := Lib.hid hk
            rw [hk] at hl
            have k1 : ((k : Int) != 1) = true := by simp; omega
            have k1n : (k != 1) = true := by simpa using hl
            clear hm hl hk
            go_enter Tryd.func18, Tryd.ntmps18
            go_wp2_with fail
            refine (LC.out).mono ?_
            rintro e w1 ⟨rfl, b1⟩
            have B1 := Lib.hid b1
            have GC := Lib.hid (GG.out w1 b1)
            clear b1 LC
            go_wp2_with fail
            refine (GC.out).mono ?_
            rintro e w2 ⟨rfl, b2⟩
            have B2 : Hid (Below w.heap.size w w2) := B1.out.trans (b2.mono B1.out.size)
            clear b2 GC GG B1
            have NC := Lib.hid (NN.out w2 B2.out)
            go_wp2_with fail
            refine (NC.out).mono ?_
            intro e w3 hnc
            obtain ⟨a4, c4, he, h4, s4⟩ : ∃ ao c, e = .returned (.tuple #[.slice ao ns.length c, .bool true]) ∧ Holds w3 (rowL 9 1 strE (.slice ao ns.length c) ns * all w2) ∧ Sm w2 w3 := hnc
            subst he
            have H4 := Lib.hid h4
            have B3 : Hid (Below w.heap.size w w3) := B2.out.trans ((Holds.below h4 s4).mono B2.out.size)
            clear h4 s4 NC NN
            rw [HKK.out]
            go_wp2_with fail
            go_ret3
            exact ⟨rfl, B3.out⟩
#print axioms rof_calls
end Go.Proofs.YtefcinifaaablaaDoor.Tok
