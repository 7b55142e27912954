/-
  Layer 1: what a token's byte is; all; Is; Number.
-/
import Derived.Test.YtibhnkkfaochhaaDoorTok1
namespace Go.Proofs.YtibhnkkfaochhaaDoor.Tok
open Go.RowKit Go.Sep
set_option maxRecDepth 100000
set_option linter.unusedVariables false
set_option linter.unusedSimpArgs false

def mkL : List Nat := [33, 35, 36, 37, 38, 39, 42, 43, 45, 46, 94, 95, 96, 124, 126]
def letK (k : Nat) : Bool := (decide (97 ≤ k) && decide (k ≤ 122)) || ((decide (65 ≤ k) && decide (k ≤ 90)) || (decide (48 ≤ k) && decide (k ≤ 57)))
def tokK (k : Nat) : Bool := letK k || mkL.contains k
def tokB (b : UInt8) : Bool := tokK b.toNat
theorem low_let (k : Nat) (h : k < 256) : ∃ m : Nat, bits .or .u8 (k : Int) 32 = (m : Int) ∧ m < 256 ∧ letK k = ((decide (97 ≤ m) && decide (m ≤ 122)) || (decide (48 ≤ k) && decide (k ≤ 57))) := by
  have : ∀ k : Fin 256, bits .or .u8 (k.val : Int) 32 = ((k.val ||| 32 : Nat) : Int) ∧ (k.val ||| 32) < 256 ∧ letK k.val = ((decide (97 ≤ (k.val ||| 32)) && decide ((k.val ||| 32) ≤ 122)) || (decide (48 ≤ k.val) && decide (k.val ≤ 57))) := by decide +kernel
  obtain ⟨h1, h2, h3⟩ := this ⟨k, h⟩
  exact ⟨k ||| 32, h1, h2, h3⟩
def mkV : Value := .agg #[.int .u8 33, .int .u8 35, .int .u8 36, .int .u8 37, .int .u8 38, .int .u8 39, .int .u8 42, .int .u8 43, .int .u8 45, .int .u8 46, .int .u8 94, .int .u8 95, .int .u8 96, .int .u8 124, .int .u8 126]
theorem index_mk (i : Nat) (hi : i < 15) (w : World) : (Instr.index 117 mkV (.int .i64 (i : Int))).run Tryd.prog w = .ok (.int .u8 ((mkL.getD i 0 : Nat) : Int)) w := by
  have : i = 0 ∨ i = 1 ∨ i = 2 ∨ i = 3 ∨ i = 4 ∨ i = 5 ∨ i = 6 ∨ i = 7 ∨ i = 8 ∨ i = 9 ∨ i = 10 ∨ i = 11 ∨ i = 12 ∨ i = 13 ∨ i = 14 := by omega
  rcases this with rfl | rfl | rfl | rfl | rfl | rfl | rfl | rfl | rfl | rfl | rfl | rfl | rfl | rfl | rfl <;> simp [Instr.index, run_underlying Tryd.underlying117, asIntOf, mkV, mkL] <;> rfl
theorem marks_calls (w : World) : Calls Tryd.prog 92 #[] w fun e w' => e = .returned mkV ∧ Below w.heap.size w w' := by
  go_enter Tryd.func92, Tryd.ntmps92
  go_wp2_with fail
  have hB : Below w.heap.size w (w.alloc (.cells #[.int .u8 33, .int .u8 35, .int .u8 36, .int .u8 37, .int .u8 38, .int .u8 39, .int .u8 42, .int .u8 43, .int .u8 45, .int .u8 46, .int .u8 94, .int .u8 95, .int .u8 96, .int .u8 124, .int .u8 126] 117)) := (Below.refl _ w).alloc (Nat.le_refl _) _
  exact bodyPost_ret (v := mkV) (by simp [results, Tryd.results92, go_sem, mkV]) rfl ⟨rfl, hB⟩
theorem intoken_calls (k : Nat) (hk : k < 256) (w : World) : Calls Tryd.prog 77 #[.int .u8 (k : Int)] w fun e w' => e = .returned (.bool (tokK k)) ∧ Below w.heap.size w w' := by
  obtain ⟨m, hm, hm9, hl⟩ := low_let k hk
  have MK := Lib.hid (fun w => marks_calls w)
  have HL := Lib.hid hl
  have TK : Hid (letK k = true → tokK k = true) := fun h => by unfold tokK; rw [h]; rfl
  have TN : Hid (letK k = false → tokK k = mkL.contains k) := fun h => by unfold tokK; rw [h]; rfl
  have G1 : Hid ((97 ≤ m ∧ m ≤ 122) ∨ (48 ≤ k ∧ k ≤ 57) ↔ letK k = true) := by
    show _ ↔ _
    rw [hl]; simp
  clear hl
  by_cases hL : letK k = true
  · rw [TK.out hL]
    have G2 := G1.out.2 hL
    clear hL
    by_cases hm1 : 97 ≤ m ∧ m ≤ 122
    · have e1 : decide ((97 : Int) ≤ (m : Int)) = true := by simp; omega
      have e2 : decide ((m : Int) ≤ 122) = true := by simp; omega
      have e1n : decide (97 ≤ m) = true := by simp; omega
      have e2n : decide (m ≤ 122) = true := by simp; omega
      clear G2 hm1
      go_enter Tryd.func77, Tryd.ntmps77
      go_wp2_with fail
      go_ret
      exact ⟨rfl, Below.refl _ _⟩
    · obtain ⟨k1, k2⟩ : 48 ≤ k ∧ k ≤ 57 := by omega
      have e3 : decide ((48 : Int) ≤ (k : Int)) = true := by simp; omega
      have e4 : decide ((k : Int) ≤ 57) = true := by simp; omega
      have e3n : decide (48 ≤ k) = true := by simp; omega
      have e4n : decide (k ≤ 57) = true := by simp; omega
      by_cases hm2 : 97 ≤ m
      · have e1 : decide ((97 : Int) ≤ (m : Int)) = true := by simp; omega
        have e2 : decide ((m : Int) ≤ 122) = false := by simp; omega
        have e1n : decide (97 ≤ m) = true := by simp; omega
        have e2n : decide (m ≤ 122) = false := by simp; omega
        clear G2 hm1
        go_enter Tryd.func77, Tryd.ntmps77
        go_wp2_with fail
        go_ret
        exact ⟨rfl, Below.refl _ _⟩
      · have e1 : decide ((97 : Int) ≤ (m : Int)) = false := by simp; omega
        have e1n : decide (97 ≤ m) = false := by simp; omega
        clear G2 hm1
        go_enter Tryd.func77, Tryd.ntmps77
        go_wp2_with fail
        go_ret
        exact ⟨rfl, Below.refl _ _⟩
  · have hLf : letK k = false := by simpa using hL
    rw [TN.out hLf]
    obtain ⟨rs, hrs⟩ : ∃ q, mkL.contains k = q := ⟨_, rfl⟩
    have HRS := Lib.hid hrs
    rw [hrs]
    clear hrs
    have G2 : ¬ ((97 ≤ m ∧ m ≤ 122) ∨ (48 ≤ k ∧ k ≤ 57)) := fun h => hL (G1.out.1 h)
    obtain ⟨bm, hbm, em⟩ : ∃ bm : Bool, (decide ((97 : Int) ≤ (m : Int)) = bm ∧ decide (97 ≤ m) = bm) ∧ (bm = true → decide ((m : Int) ≤ 122) = false ∧ decide (m ≤ 122) = false) := ⟨decide (97 ≤ m), ⟨by rw [decide_eq_decide]; omega, rfl⟩, fun h => by simp at h ⊢; omega⟩
    obtain ⟨bk, hbk, ek⟩ : ∃ bk : Bool, (decide ((48 : Int) ≤ (k : Int)) = bk ∧ decide (48 ≤ k) = bk) ∧ (bk = true → decide ((k : Int) ≤ 57) = false ∧ decide (k ≤ 57) = false) := ⟨decide (48 ≤ k), ⟨by rw [decide_eq_decide]; omega, rfl⟩, fun h => by simp at h ⊢; omega⟩
    obtain ⟨hb1, hb2⟩ := hbm
    obtain ⟨hc1, hc2⟩ := hbk
    clear hL hLf G1 G2 TK TN HL
    cases bm <;> cases bk
    all_goals
      try (obtain ⟨em1, em2⟩ := em rfl)
      try (obtain ⟨ek1, ek2⟩ := ek rfl)
      clear em ek
      go_enter Tryd.func77, Tryd.ntmps77
      go_wp2_with fail
      refine (MK.out _).mono ?_
      rintro e w1 ⟨rfl, b1⟩
      have B1 := Lib.hid b1
      clear b1 MK
      go_wp2_with fail
      go_loopw [23] (fun x wl => ∃ i : Nat, i ≤ 15 ∧ x = .int .i64 i ∧ Hid (∀ j, j < i → mkL.getD j 0 ≠ k) ∧ wl = w1) (fun x _ => 15 - (intOf x).toNat)
      case atStart => exact ⟨0, by omega, rfl, fun j h => by omega, rfl⟩
      case round =>
        obtain ⟨i, hi, rfl, HJ, rfl⟩ := hrel
        by_cases hi15 : i < 15
        · have IX := index_mk i hi15
          obtain ⟨v, hv⟩ : ∃ q, mkL.getD i 0 = q := ⟨_, rfl⟩
          have HV := Lib.hid hv
          rw [hv] at IX
          have i0 : (0 : Int) ≤ (i : Int) := by omega
          have i1 : (i : Int) < 15 := by omega
          have i2 : decide ((i : Int) < 15) = true := by simp; omega
          clear hv
          by_cases hvk : v = k
          · have hc : mkL.contains k = true := by
              rw [List.contains_iff_mem]
              rw [← hvk, ← HV.out]
              have : i < mkL.length := hi15
              simp [List.getD, this]
            have hrs : rs = true := by rw [← HRS.out]; exact hc
            clear hc HRS
            subst hvk
            go_wp2_with fail
            go_ret
            exact ⟨by rw [hrs]; rfl, B1.out⟩
          · have e5 : ((v : Int) == (k : Int)) = false := beq_eq_false_iff_ne.2 (by omega)
            have e5n : (v == k) = false := by simpa using hvk
            have HN : Hid (∀ j, j < i + 1 → mkL.getD j 0 ≠ k) := by
              intro j hj
              by_cases e : j = i
              · rw [e, HV.out]; exact hvk
              · exact HJ.out j (by omega)
            clear hvk
            go_wp2_with fail
            go_roundw
            case rel => exact ⟨i + 1, by omega, by go_num, HN.out, by first | rfl | trivial⟩
            case measure => simp [intOf]; omega
        · obtain rfl : i = 15 := by omega
          have hc : mkL.contains k = false := by
            rw [List.contains_eq_any_beq, List.any_eq_false]
            intro x hx
            obtain ⟨j, hj, rfl⟩ := List.getElem_of_mem hx
            have hj15 : j < 15 := hj
            have := HJ.out j hj15
            simp only [List.getD, List.getElem?_eq_getElem hj, Option.getD_some] at this
            simpa using fun h => this h.symm
          have hrs : rs = false := by rw [← HRS.out]; exact hc
          clear hc HRS
          go_wp2_with fail
          go_ret
          exact ⟨by rw [hrs]; rfl, B1.out⟩
#print axioms intoken_calls
def digK (k : Nat) : Bool := decide (48 ≤ k) && decide (k ≤ 57)
theorem idx_s (s : ByteArray) (i : Nat) (hi : i < s.size) (w : World) : (Instr.index 9 (.string s) (.int .i64 (i : Int))).run Tryd.prog w = .ok (.int .u8 (((bl s)[i]'(by rw [bl_len]; exact hi)).toNat : Int)) w := by
  rw [run_index_string w 9 s .i64 _ Tryd.underlying9, dif_pos ⟨by omega, by omega⟩]
  simp only [Int.toNat_natCast]
  rfl
theorem all_tok (s : ByteArray) (hs : s.size ≤ 1048576) (w : World) :
    Calls Tryd.prog 76 #[.string s, .func (.func 77) #[] #[]] w fun e w' => e = .returned (.bool ((bl s).all fun b => tokK b.toNat)) ∧ Below w.heap.size w w' := by
  have HF := Lib.hid (fun k w (hk : k < 256) => intoken_calls k hk w)
  obtain ⟨rs, hrs⟩ : ∃ q, ((bl s).all fun b => tokK b.toNat) = q := ⟨_, rfl⟩
  have HRS := Lib.hid hrs
  rw [hrs]
  clear hrs
  go_enter Tryd.func76, Tryd.ntmps76
  go_wp2_with fail
  go_loopw [8] (fun x wl => ∃ i : Nat, i ≤ s.size ∧ x = .int .i64 i ∧ Hid (∀ j (hj : j < (bl s).length), j < i → tokK (bl s)[j].toNat = true) ∧ Hid (Below w.heap.size w wl)) (fun x _ => s.size - (intOf x).toNat)
  case atStart => exact ⟨0, Nat.zero_le _, rfl, fun j _ h => by omega, Below.refl _ _⟩
  case round =>
    obtain ⟨i, hi, rfl, HJ, HB⟩ := hrel
    by_cases hil : i < s.size
    · have hib : i < (bl s).length := by rw [bl_len]; exact hil
      have IX := idx_s s i hil
      obtain ⟨k, hk⟩ : ∃ q, (bl s)[i].toNat = q := ⟨_, rfl⟩
      have hk9 : k < 256 := by rw [← hk]; exact UInt8.toNat_lt _
      rw [hk] at IX
      have HK := Lib.hid hk
      have i0 : (0 : Int) ≤ (i : Int) := by omega
      have i1 : (i : Int) < (s.size : Int) := by omega
      have FC := Lib.hid (HF.out k wr hk9)
      clear hk
      by_cases hp : tokK k = true
      · rw [hp] at FC
        have HN : Hid (∀ j (hj : j < (bl s).length), j < i + 1 → tokK (bl s)[j].toNat = true) := by
          intro j hj hlt
          by_cases e : j = i
          · subst e; rw [HK.out]; exact hp
          · exact HJ.out j hj (by omega)
        clear hp
        go_wp2_with fail
        refine (FC.out).mono ?_
        rintro e w1 ⟨rfl, b1⟩
        have B1 : Hid (Below w.heap.size w w1) := HB.out.trans (b1.mono HB.out.size)
        clear b1 FC
        go_wp2_with fail
        go_roundw
        case rel => exact ⟨i + 1, by omega, by go_num, HN.out, B1.out⟩
        case measure => simp [intOf]; omega
      · have hp2 : tokK k = false := by simpa using hp
        rw [hp2] at FC
        have hr : rs = false := by
          rw [← HRS.out, List.all_eq_false]
          exact ⟨_, List.getElem_mem hib, by rw [HK.out]; simpa using hp2⟩
        clear hp hp2 HRS
        subst hr
        go_wp2_with fail
        refine (FC.out).mono ?_
        rintro e w1 ⟨rfl, b1⟩
        have B1 : Hid (Below w.heap.size w w1) := HB.out.trans (b1.mono HB.out.size)
        clear b1 FC
        go_wp2_with fail
        go_ret
        exact ⟨rfl, B1.out⟩
    · obtain rfl : i = s.size := by omega
      have hr : rs = true := by
        rw [← HRS.out, List.all_eq_true]
        intro x hx
        obtain ⟨j, hj, rfl⟩ := List.getElem_of_mem hx
        exact HJ.out j hj (by rw [← bl_len]; exact hj)
      clear HRS
      subst hr
      go_wp2_with fail
      go_ret
      exact ⟨rfl, HB.out⟩
#print axioms all_tok
def isL (l : List UInt8) : Bool := !l.isEmpty && l.all fun b => tokK b.toNat
theorem is_calls (s : ByteArray) (hs : s.size ≤ 1048576) (w : World) : Calls Tryd.prog 51 #[.string s] w fun e w' => e = .returned (.bool (isL (bl s))) ∧ Below w.heap.size w w' := by
  have AT := Lib.hid (all_tok s hs w)
  by_cases h0 : s.size = 0
  · have hb : bl s = [] := List.eq_nil_of_length_eq_zero (by rw [bl_len]; exact h0)
    have he : s.toList.isEmpty = true := by rw [Go.Lib.toList_data]; show (bl s).isEmpty = true; rw [hb]; rfl
    have he2 : s.toList = [] := by rw [Go.Lib.toList_data]; exact hb
    have : isL (bl s) = false := by rw [hb]; rfl
    rw [this]
    clear AT hb h0
    go_enter Tryd.func51, Tryd.ntmps51
    go_wp2_with fail
    go_ret
    exact ⟨by simp, Below.refl _ _⟩
  · have he : s.toList.isEmpty = false := by
      rw [Go.Lib.toList_data]; show (bl s).isEmpty = false
      cases hb : bl s with
      | nil => have := bl_len s; rw [hb] at this; simp at this; omega
      | cons _ _ => rfl
    have he2 : (!s.toList.isEmpty) = true := by rw [he]; rfl
    have : isL (bl s) = ((bl s).all fun b => tokK b.toNat) := by
      unfold isL
      have hx : (bl s).isEmpty = false := by have h := he; rw [Go.Lib.toList_data] at h; exact h
      rw [hx]
      rfl
    rw [this]
    obtain ⟨rs, hrs⟩ : ∃ q, ((bl s).all fun b => tokK b.toNat) = q := ⟨_, rfl⟩
    rw [hrs] at AT ⊢
    clear hrs this h0
    go_enter Tryd.func51, Tryd.ntmps51
    go_wp2_with fail
    refine (AT.out).mono ?_
    rintro e w1 ⟨rfl, b1⟩
    go_wp2_with fail
    go_ret
    exact ⟨by simp, b1⟩
#print axioms is_calls
end Go.Proofs.YtibhnkkfaochhaaDoor.Tok
