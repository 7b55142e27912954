/-
  Layers 1 and 4: Value, Cut, Parse.
-/
import Derived.Test.YtibhnkkfaochhaaDoorDec4
import Derived.Shelf.Small.Strs
namespace Go.Proofs.YtibhnkkfaochhaaDoor.Dec
open Go.RowKit Go.Sep
open Go.Proofs.YtibhnkkfaochhaaDoor.Tok
set_option maxRecDepth 100000
set_option linter.unusedVariables false
set_option linter.unusedSimpArgs false

def valK (k : Nat) : Bool := decide (k = 32 ∨ k = 9 ∨ (33 ≤ k ∧ k ≠ 127))
theorem blank1_calls (k : Nat) (hk : k < 256) (w : World) : Calls Tryd.prog 79 #[.int .u8 k] w fun e w' => e = .returned (.bool (decide (k = 32 ∨ k = 9))) ∧ Below w.heap.size w w' := by
  obtain ⟨rs, hrs⟩ : ∃ q, decide (k = 32 ∨ k = 9) = q := ⟨_, rfl⟩
  rw [hrs]
  by_cases h1 : k = 32
  · have hr : rs = true := by rw [← hrs]; simp [h1]
    subst hr
    have e1 : ((k : Int) == 32) = true := by simp [h1]
    have e2 : (k == 32) = true := by simp [h1]
    clear hrs h1
    go_enter Tryd.func79, Tryd.ntmps79
    go_wp2_with fail
    go_ret
    exact ⟨rfl, Below.refl _ _⟩
  · have e1 : ((k : Int) == 32) = false := beq_eq_false_iff_ne.2 (by omega)
    have e2 : (k == 32) = false := by simpa using h1
    have hr : rs = (k == 9) := by rw [← hrs]; by_cases h2 : k = 9 <;> simp [h1, h2]
    subst hr
    have e3 : ((k : Int) == 9) = (k == 9) := by
      by_cases h2 : k = 9
      · simp [h2]
      · rw [show (k == 9) = false by simpa using h2]; exact beq_eq_false_iff_ne.2 (by omega)
    obtain ⟨b, hb⟩ : ∃ b, (k == 9) = b := ⟨_, rfl⟩
    rw [hb] at e3 ⊢
    clear hrs h1
    go_enter Tryd.func79, Tryd.ntmps79
    go_wp2_with fail
    go_ret
    exact ⟨rfl, Below.refl _ _⟩
#print axioms blank1_calls
theorem val1_calls (k : Nat) (hk : k < 256) (w : World) : Calls Tryd.prog 78 #[.int .u8 k] w fun e w' => e = .returned (.bool (valK k)) ∧ Below w.heap.size w w' := by
  have BC := Lib.hid (blank1_calls k hk w)
  obtain ⟨rs, hrs⟩ : ∃ q, valK k = q := ⟨_, rfl⟩
  rw [hrs]
  unfold valK at hrs
  obtain ⟨b, hb⟩ : ∃ q, decide (k = 32 ∨ k = 9) = q := ⟨_, rfl⟩
  rw [hb] at BC
  cases b with
  | true =>
    have hr : rs = true := by rw [← hrs]; have := of_decide_eq_true hb; simp; omega
    subst hr
    clear hrs hb
    go_enter Tryd.func78, Tryd.ntmps78
    go_wp2_with fail
    refine (BC.out).mono ?_
    rintro e w1 ⟨rfl, b1⟩
    go_wp2_with fail
    go_ret
    exact ⟨rfl, b1⟩
  | false =>
    have hn := of_decide_eq_false hb
    by_cases h1 : 32 < k
    · have e1 : decide ((32 : Int) < (k : Int)) = true := decide_eq_true (by omega)
      have e2 : decide (32 < k) = true := decide_eq_true h1
      have hr : rs = (k != 127) := by
        rw [← hrs]
        by_cases h2 : k = 127
        · simp [h2]
        · rw [show (k != 127) = true by simpa using h2]; exact decide_eq_true (.inr (.inr ⟨by omega, h2⟩))
      subst hr
      have e3 : ((k : Int) != 127) = (k != 127) := by
        by_cases h2 : k = 127
        · simp [h2]
        · rw [show (k != 127) = true by simpa using h2]; simp; omega
      obtain ⟨b, hb⟩ : ∃ b, (k != 127) = b := ⟨_, rfl⟩
      rw [hb] at e3 ⊢
      clear hrs hn h1
      go_enter Tryd.func78, Tryd.ntmps78
      go_wp2_with fail
      refine (BC.out).mono ?_
      rintro e w1 ⟨rfl, b1⟩
      go_wp2_with fail
      go_ret
      exact ⟨rfl, b1⟩
    · have e1 : decide ((32 : Int) < (k : Int)) = false := decide_eq_false (by omega)
      have e2 : decide (32 < k) = false := decide_eq_false h1
      have hr : rs = false := by rw [← hrs]; simp; omega
      subst hr
      clear hrs hn h1 hb
      go_enter Tryd.func78, Tryd.ntmps78
      go_wp2_with fail
      refine (BC.out).mono ?_
      rintro e w1 ⟨rfl, b1⟩
      go_wp2_with fail
      go_ret
      exact ⟨rfl, b1⟩
#print axioms val1_calls
theorem all_val (s : ByteArray) (hs : s.size ≤ 1048576) (w : World) :
    Calls Tryd.prog 76 #[.string s, .func (.func 78) #[] #[]] w fun e w' => e = .returned (.bool ((bl s).all fun b => valK b.toNat)) ∧ Below w.heap.size w w' := by
  have HF := Lib.hid (fun k w (hk : k < 256) => val1_calls k hk w)
  obtain ⟨rs, hrs⟩ : ∃ q, ((bl s).all fun b => valK b.toNat) = q := ⟨_, rfl⟩
  have HRS := Lib.hid hrs
  rw [hrs]
  clear hrs
  go_enter Tryd.func76, Tryd.ntmps76
  go_wp2_with fail
  go_loopw [8] (fun x wl => ∃ i : Nat, i ≤ s.size ∧ x = .int .i64 i ∧ Hid (∀ j (hj : j < (bl s).length), j < i → valK (bl s)[j].toNat = true) ∧ Hid (Below w.heap.size w wl)) (fun x _ => s.size - (intOf x).toNat)
  case atStart => exact ⟨0, Nat.zero_le _, rfl, fun j _ h => by omega, Below.refl _ _⟩
  case round =>
    obtain ⟨i, hi, rfl, HJ, HB⟩ := hrel
    by_cases hil : i < s.size
    · have hib : i < (bl s).length := by rw [bl_len]; exact hil
      have IX := idx_s s i hil
      obtain ⟨k, hk⟩ : ∃ q, (bl s)[i].toNat = q := ⟨_, rfl⟩
      have hk9 : k < 256 := by rw [← hk]; exact UInt8.toNat_lt _
      rw [hk] at IX
      have HK := Lib.hid hk
      have i0 : (0 : Int) ≤ (i : Int) := by omega
      have i1 : (i : Int) < (s.size : Int) := by omega
      have FC := Lib.hid (HF.out k wr hk9)
      clear hk
      by_cases hp : valK k = true
      · rw [hp] at FC
        have HN : Hid (∀ j (hj : j < (bl s).length), j < i + 1 → valK (bl s)[j].toNat = true) := by
          intro j hj hlt
          by_cases e : j = i
          · subst e; rw [HK.out]; exact hp
          · exact HJ.out j hj (by omega)
        clear hp
        go_wp2_with fail
        refine (FC.out).mono ?_
        rintro e w1 ⟨rfl, b1⟩
        have B1 : Hid (Below w.heap.size w w1) := HB.out.trans (b1.mono HB.out.size)
        clear b1 FC
        go_wp2_with fail
        go_roundw
        case rel => exact ⟨i + 1, by omega, by go_num, HN.out, B1.out⟩
        case measure => simp [intOf]; omega
      · have hp2 : valK k = false := by simpa using hp
        rw [hp2] at FC
        have hr : rs = false := by
          rw [← HRS.out, List.all_eq_false]
          exact ⟨_, List.getElem_mem hib, by rw [HK.out]; simpa using hp2⟩
        clear hp hp2 HRS
        subst hr
        go_wp2_with fail
        refine (FC.out).mono ?_
        rintro e w1 ⟨rfl, b1⟩
        have B1 : Hid (Below w.heap.size w w1) := HB.out.trans (b1.mono HB.out.size)
        clear b1 FC
        go_wp2_with fail
        go_ret
        exact ⟨rfl, B1.out⟩
    · obtain rfl : i = s.size := by omega
      have hr : rs = true := by
        rw [← HRS.out, List.all_eq_true]
        intro x hx
        obtain ⟨j, hj, rfl⟩ := List.getElem_of_mem hx
        exact HJ.out j hj (by rw [← bl_len]; exact hj)
      clear HRS
      subst hr
      go_wp2_with fail
      go_ret
      exact ⟨rfl, HB.out⟩
#print axioms all_val
theorem value_calls (s : ByteArray) (hs : s.size ≤ 1048576) (ht : trimL (bl s) = bl s) (w : World) : Calls Tryd.prog 52 #[.string s] w fun e w' => e = .returned (.bool (valB (bl s))) ∧ Below w.heap.size w w' := by
  have TC := Lib.hid (trim_calls s hs w)
  have AV := Lib.hid (fun wq => all_val s hs wq)
  rw [ht, sb_bl] at TC
  have e1 : (s.toList == s.toList) = true := by simp
  have hv : ((bl s).all fun b => valK b.toNat) = valB (bl s) := rfl
  rw [hv] at AV
  obtain ⟨r, hr⟩ : ∃ q, valB (bl s) = q := ⟨_, rfl⟩
  rw [hr] at AV ⊢
  clear hr hv ht hs
  go_enter Tryd.func52, Tryd.ntmps52
  go_wp2_with fail
  refine (TC.out).mono ?_
  rintro e w1 ⟨rfl, b1⟩
  have B1 := Lib.hid b1
  clear b1 TC
  go_wp2_with fail
  refine (AV.out _).mono ?_
  rintro e w2 ⟨rfl, b2⟩
  have B2 : Hid (Below w.heap.size w w2) := B1.out.trans (b2.mono B1.out.size)
  clear b2 AV
  go_wp2_with fail
  go_ret
  exact ⟨rfl, B2.out⟩
#print axioms value_calls
theorem idxByte : ∀ l : List UInt8, Go.Lib.indexByte l 58 = if colK l < l.length then (colK l : Int) else -1
  | [] => rfl
  | b :: l => by
    rw [Go.Lib.indexByte, idxByte l]
    by_cases hb : b = 58
    · subst hb; simp [colK]
    · have h1 : (b == 58) = false := by simpa using hb
      have h2 : (b != 58) = true := by simpa using hb
      have hT : colK (b :: l) = colK l + 1 := by unfold colK; rw [List.takeWhile_cons, if_pos h2]; rfl
      rw [hT, List.length_cons, h1, if_neg (by simp)]
      by_cases hk : colK l < l.length
      · rw [if_pos hk, if_pos (by omega : colK l + 1 < l.length + 1)]
        have : ((colK l : Int) == -1) = false := beq_eq_false_iff_ne.2 (by omega)
        rw [this, if_neg (by simp)]
        rfl
      · rw [if_neg hk, if_neg (by omega : ¬ colK l + 1 < l.length + 1)]
        rfl
#print axioms idxByte
end Go.Proofs.YtibhnkkfaochhaaDoor.Dec
