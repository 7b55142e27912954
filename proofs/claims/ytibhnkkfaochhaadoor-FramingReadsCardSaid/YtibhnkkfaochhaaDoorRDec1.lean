/-
  FramingReads: the document's hex and size (printed by gen/rdec1.py).
-/
import Derived.Test.YtibhnkkfaochhaaDoorDec14
import Derived.Test.YtibhnkkfaochhaaDoorRTok2
namespace Go.Proofs.YtibhnkkfaochhaaDoor.Dec
open Go.RowKit Go.Sep
open Go.Proofs.YtibhnkkfaochhaaDoor.Tok
set_option maxRecDepth 100000
set_option linter.unusedVariables false
set_option linter.unusedSimpArgs false

def hexZ (c : UInt8) : Int := match hexV c with | some v => (v : Int) | none => -1
theorem hexV_nat (c : UInt8) (k : Nat) (hk : c.toNat = k) : hexZ c = if 48 ≤ k ∧ k ≤ 57 then (k : Int) - 48 else if 97 ≤ k ∧ k ≤ 102 then (k : Int) - 87 else if 65 ≤ k ∧ k ≤ 70 then (k : Int) - 55 else -1 := by
  unfold hexZ hexV
  rw [hk]
  split
  · rename_i v h
    split at h
    · rename_i h1; rw [if_pos h1]; have := Option.some.inj h; omega
    · rename_i h1
      rw [if_neg h1]
      split at h
      · rename_i h2; rw [if_pos h2]; have := Option.some.inj h; omega
      · rename_i h2
        rw [if_neg h2]
        split at h
        · rename_i h3; rw [if_pos h3]; have := Option.some.inj h; omega
        · cases h
  · rename_i h
    split at h
    · cases h
    · rename_i h1
      split at h
      · cases h
      · rename_i h2
        split at h
        · cases h
        · rename_i h3
          rw [if_neg h1, if_neg h2, if_neg h3]
theorem rhex_calls (c : UInt8) (w : World) : Calls Tryd.prog 37 #[.int .u8 (c.toNat : Int)] w fun e w' => e = .returned (.int .i64 (hexZ c)) ∧ w' = w := by
  obtain ⟨k, hk⟩ : ∃ k, c.toNat = k := ⟨_, rfl⟩
  have hk9 : k < 256 := by rw [← hk]; exact UInt8.toNat_lt _
  rw [hexV_nat c k hk, hk]
  clear hk
  by_cases hc : 48 ≤ k ∧ k ≤ 57
  · have p0 : decide ((48 : Int) ≤ (k : Int)) = true := decide_eq_true (by omega)
    have n0 : decide (48 ≤ k) = true := decide_eq_true (by omega)
    have p1 : decide ((k : Int) ≤ 57) = true := decide_eq_true (by omega)
    have n1 : decide (k ≤ 57) = true := decide_eq_true (by omega)
    rw [if_pos hc]
    have a1 : IntKind.u8.wrap ((k : Int) - 48) = (k : Int) - 48 := IntWalk.u8_in _ (by omega)
    have a2 : IntKind.i64.wrap ((k : Int) - 48) = (k : Int) - 48 := IntWalk.i64_in _ (by omega)
    clear hc
    go_enter Tryd.func37, Tryd.ntmps37
    go_wp2_with fail
    go_ret
    exact ⟨rfl, rfl⟩
  by_cases hc : 97 ≤ k ∧ k ≤ 102
  · have p0 : decide ((48 : Int) ≤ (k : Int)) = true := decide_eq_true (by omega)
    have n0 : decide (48 ≤ k) = true := decide_eq_true (by omega)
    have p1 : decide ((k : Int) ≤ 57) = false := decide_eq_false (by omega)
    have n1 : decide (k ≤ 57) = false := decide_eq_false (by omega)
    have p2 : decide ((97 : Int) ≤ (k : Int)) = true := decide_eq_true (by omega)
    have n2 : decide (97 ≤ k) = true := decide_eq_true (by omega)
    have p3 : decide ((k : Int) ≤ 102) = true := decide_eq_true (by omega)
    have n3 : decide (k ≤ 102) = true := decide_eq_true (by omega)
    rw [if_neg (by omega), if_pos hc]
    have a1 : IntKind.u8.wrap ((k : Int) - 97) = (k : Int) - 97 := IntWalk.u8_in _ (by omega)
    have a2 : IntKind.i64.wrap ((k : Int) - 97) = (k : Int) - 97 := IntWalk.i64_in _ (by omega)
    have a3 : IntKind.i64.wrap ((k : Int) - 97 + 10) = (k : Int) - 87 := by rw [IntWalk.i64_in _ (by omega)]; omega
    clear hc
    go_enter Tryd.func37, Tryd.ntmps37
    go_wp2_with fail
    go_ret
    exact ⟨rfl, rfl⟩
  by_cases hc : 65 ≤ k ∧ k ≤ 70
  · have p0 : decide ((48 : Int) ≤ (k : Int)) = true := decide_eq_true (by omega)
    have n0 : decide (48 ≤ k) = true := decide_eq_true (by omega)
    have p1 : decide ((k : Int) ≤ 57) = false := decide_eq_false (by omega)
    have n1 : decide (k ≤ 57) = false := decide_eq_false (by omega)
    have p2 : decide ((97 : Int) ≤ (k : Int)) = false := decide_eq_false (by omega)
    have n2 : decide (97 ≤ k) = false := decide_eq_false (by omega)
    have p4 : decide ((65 : Int) ≤ (k : Int)) = true := decide_eq_true (by omega)
    have n4 : decide (65 ≤ k) = true := decide_eq_true (by omega)
    have p5 : decide ((k : Int) ≤ 70) = true := decide_eq_true (by omega)
    have n5 : decide (k ≤ 70) = true := decide_eq_true (by omega)
    rw [if_neg (by omega), if_neg (by omega), if_pos hc]
    have a1 : IntKind.u8.wrap ((k : Int) - 65) = (k : Int) - 65 := IntWalk.u8_in _ (by omega)
    have a2 : IntKind.i64.wrap ((k : Int) - 65) = (k : Int) - 65 := IntWalk.i64_in _ (by omega)
    have a3 : IntKind.i64.wrap ((k : Int) - 65 + 10) = (k : Int) - 55 := by rw [IntWalk.i64_in _ (by omega)]; omega
    clear hc
    go_enter Tryd.func37, Tryd.ntmps37
    go_wp2_with fail
    go_ret
    exact ⟨rfl, rfl⟩
  by_cases hc : k < 48
  · have p0 : decide ((48 : Int) ≤ (k : Int)) = false := decide_eq_false (by omega)
    have n0 : decide (48 ≤ k) = false := decide_eq_false (by omega)
    have p2 : decide ((97 : Int) ≤ (k : Int)) = false := decide_eq_false (by omega)
    have n2 : decide (97 ≤ k) = false := decide_eq_false (by omega)
    have p4 : decide ((65 : Int) ≤ (k : Int)) = false := decide_eq_false (by omega)
    have n4 : decide (65 ≤ k) = false := decide_eq_false (by omega)
    rw [if_neg (by omega), if_neg (by omega), if_neg (by omega)]
    clear hc
    go_enter Tryd.func37, Tryd.ntmps37
    go_wp2_with fail
    go_ret
    exact ⟨rfl, rfl⟩
  by_cases hc : 58 ≤ k ∧ k ≤ 64
  · have p0 : decide ((48 : Int) ≤ (k : Int)) = true := decide_eq_true (by omega)
    have n0 : decide (48 ≤ k) = true := decide_eq_true (by omega)
    have p1 : decide ((k : Int) ≤ 57) = false := decide_eq_false (by omega)
    have n1 : decide (k ≤ 57) = false := decide_eq_false (by omega)
    have p2 : decide ((97 : Int) ≤ (k : Int)) = false := decide_eq_false (by omega)
    have n2 : decide (97 ≤ k) = false := decide_eq_false (by omega)
    have p4 : decide ((65 : Int) ≤ (k : Int)) = false := decide_eq_false (by omega)
    have n4 : decide (65 ≤ k) = false := decide_eq_false (by omega)
    rw [if_neg (by omega), if_neg (by omega), if_neg (by omega)]
    clear hc
    go_enter Tryd.func37, Tryd.ntmps37
    go_wp2_with fail
    go_ret
    exact ⟨rfl, rfl⟩
  by_cases hc : 71 ≤ k ∧ k ≤ 96
  · have p0 : decide ((48 : Int) ≤ (k : Int)) = true := decide_eq_true (by omega)
    have n0 : decide (48 ≤ k) = true := decide_eq_true (by omega)
    have p1 : decide ((k : Int) ≤ 57) = false := decide_eq_false (by omega)
    have n1 : decide (k ≤ 57) = false := decide_eq_false (by omega)
    have p2 : decide ((97 : Int) ≤ (k : Int)) = false := decide_eq_false (by omega)
    have n2 : decide (97 ≤ k) = false := decide_eq_false (by omega)
    have p4 : decide ((65 : Int) ≤ (k : Int)) = true := decide_eq_true (by omega)
    have n4 : decide (65 ≤ k) = true := decide_eq_true (by omega)
    have p5 : decide ((k : Int) ≤ 70) = false := decide_eq_false (by omega)
    have n5 : decide (k ≤ 70) = false := decide_eq_false (by omega)
    rw [if_neg (by omega), if_neg (by omega), if_neg (by omega)]
    clear hc
    go_enter Tryd.func37, Tryd.ntmps37
    go_wp2_with fail
    go_ret
    exact ⟨rfl, rfl⟩
  by_cases hc : 103 ≤ k
  · have p0 : decide ((48 : Int) ≤ (k : Int)) = true := decide_eq_true (by omega)
    have n0 : decide (48 ≤ k) = true := decide_eq_true (by omega)
    have p1 : decide ((k : Int) ≤ 57) = false := decide_eq_false (by omega)
    have n1 : decide (k ≤ 57) = false := decide_eq_false (by omega)
    have p2 : decide ((97 : Int) ≤ (k : Int)) = true := decide_eq_true (by omega)
    have n2 : decide (97 ≤ k) = true := decide_eq_true (by omega)
    have p3 : decide ((k : Int) ≤ 102) = false := decide_eq_false (by omega)
    have n3 : decide (k ≤ 102) = false := decide_eq_false (by omega)
    have p4 : decide ((65 : Int) ≤ (k : Int)) = true := decide_eq_true (by omega)
    have n4 : decide (65 ≤ k) = true := decide_eq_true (by omega)
    have p5 : decide ((k : Int) ≤ 70) = false := decide_eq_false (by omega)
    have n5 : decide (k ≤ 70) = false := decide_eq_false (by omega)
    rw [if_neg (by omega), if_neg (by omega), if_neg (by omega)]
    clear hc
    go_enter Tryd.func37, Tryd.ntmps37
    go_wp2_with fail
    go_ret
    exact ⟨rfl, rfl⟩
  omega
#print axioms rhex_calls
theorem hexZ_pos {c : UInt8} (h : isHex c = true) : ∃ v : Nat, hexZ c = v ∧ v < 16 ∧ (hexV c).getD 0 = v := by
  obtain ⟨v, hv, hv16, -⟩ := hex_cases h
  unfold isHex at h
  unfold hexZ
  cases hh : hexV c with
  | none => rw [hh] at h; cases h
  | some x => rw [hh] at hv; simp at hv; subst hv; exact ⟨x, rfl, hv16, rfl⟩
theorem hexZ_neg {c : UInt8} (h : isHex c = false) : hexZ c = -1 := by
  unfold isHex at h
  unfold hexZ
  cases hh : hexV c with
  | none => rfl
  | some x => rw [hh] at h; cases h
theorem hexN_snoc (l : List UInt8) (c : UInt8) : hexN (l ++ [c]) = hexN l * 16 + (hexV c).getD 0 := by simp [hexN]
theorem hexN_bound (l : List UInt8) (h : ∀ c ∈ l, isHex c = true) : hexN l < 16 ^ l.length := by
  have := hexN_lt l 0 0 (by decide) h
  rw [Nat.zero_add] at this
  exact this
theorem ctl_hex {c : UInt8} (h : isHex c = true) : ctlB c = true := by
  have : ∀ k : Fin 256, isHex (UInt8.ofNat k.val) = true → ctlB (UInt8.ofNat k.val) = true := by decide +kernel
  have h9 := this ⟨c.toNat, c.toNat_lt⟩
  simp only [UInt8.ofNat_toNat] at h9
  exact h9 h
theorem ctl_blk {c : UInt8} (h : blkB c = true) : ctlB c = true := by
  have : ∀ k : Fin 256, blkB (UInt8.ofNat k.val) = true → ctlB (UInt8.ofNat k.val) = true := by decide +kernel
  have h9 := this ⟨c.toNat, c.toNat_lt⟩
  simp only [UInt8.ofNat_toNat] at h9
  exact h9 h
theorem dw_nil (p : UInt8 → Bool) : ∀ l : List UInt8, l.dropWhile p = [] → ∀ c ∈ l, p c = true
  | [], _, c, hc => by cases hc
  | b :: r, h, c, hc => by
    by_cases hb : p b = true
    · rw [List.dropWhile_cons_of_pos hb] at h
      rcases List.mem_cons.1 hc with rfl | h2
      · exact hb
      · exact dw_nil p r h c h2
    · rw [List.dropWhile_cons_of_neg hb] at h; cases h
theorem trim_nil (l : List UInt8) (h : trimL l = []) : ∀ c ∈ l, blkB c = true := by
  rw [trimL_eq] at h
  unfold rtrB at h
  have h1 : (ltrB l).reverse.dropWhile blkB = [] := by simpa using h
  have h2 : ∀ c ∈ ltrB l, blkB c = true := fun c hc => dw_nil _ _ h1 c (by simpa using hc)
  intro c hc
  rw [← List.takeWhile_append_dropWhile (p := blkB) (l := l)] at hc
  rcases List.mem_append.1 hc with h3 | h3
  · exact List.all_eq_true.1 List.all_takeWhile c h3
  · exact h2 c h3
theorem ctl_split (l : List UInt8) : l.all ctlB = (l.drop (hexK l)).all ctlB := by
  conv => lhs; rw [← List.take_append_drop (hexK l) l]
  rw [List.all_append, show (l.take (hexK l)).all ctlB = true from List.all_eq_true.2 fun c hc => ctl_hex (hexK_hex l c hc), Bool.true_and]
theorem sizeL_fin (l : List UInt8) (h0 : hexK l ≠ 0) (h8 : hexK l ≤ 8) : sizeL l = if trimL (l.drop (hexK l)) = [] then some (hexN (l.take (hexK l))) else if (trimL (l.drop (hexK l))).head? ≠ some 59 then none else if (l.drop (hexK l)).all ctlB = true then some (hexN (l.take (hexK l))) else none := by
  rw [sizeL_eq, if_neg (by omega), ctl_split]
  by_cases ht : trimL (l.drop (hexK l)) = []
  · rw [if_neg (fun h => h.1 ht), if_pos ht, if_pos (List.all_eq_true.2 fun c hc => ctl_blk (trim_nil _ ht c hc))]
  · rw [if_neg ht]
    by_cases h1 : (trimL (l.drop (hexK l))).head? ≠ some 59
    · rw [if_pos ⟨ht, h1⟩, if_pos h1]
    · rw [if_neg (fun h => h1 h.2), if_neg h1]
def sizeZ (r : Option Nat) : Int := match r with | some n => (n : Int) | none => -1
def RSizeC (r : Option Nat) (w : World) (e : Ending) (w' : World) : Prop := e = .returned (.int .i64 (sizeZ r)) ∧ Below w.heap.size w w'
set_option maxHeartbeats 8000000 in
theorem rsize_calls (s : ByteArray) (hs : s.size ≤ 1048576) (w : World) : Calls Tryd.prog 28 #[.string s] w (RSizeC (sizeL (bl s)) w) := by
  have HX := Lib.hid (fun c wq => rhex_calls c wq)
  have HF := Lib.hid (sizeL_fin (bl s))
  have HE := Lib.hid (sizeL_eq (bl s))
  obtain ⟨R, hR⟩ : ∃ q, sizeL (bl s) = q := ⟨_, rfl⟩
  rw [hR] at HF HE ⊢
  have hKle : hexK (bl s) ≤ s.size := by have := hexK_le (bl s); rw [bl_len] at this; exact this
  have HAT := Lib.hid (hexK_at (bl s))
  have HHX := Lib.hid (hexK_hex (bl s))
  obtain ⟨K, hK⟩ : ∃ q, hexK (bl s) = q := ⟨_, rfl⟩
  rw [hK] at HF HE hKle HAT HHX
  have HBND : Hid (∀ k, k ≤ K → k ≤ 8 → hexN ((bl s).take k) < 4294967296) := by
    intro k hk h8
    have h1 := hexN_bound ((bl s).take k) (fun c hc => HHX.out c (by
      have : (bl s).take k = ((bl s).take K).take k := by rw [List.take_take, Nat.min_eq_left hk]
      rw [this] at hc
      exact List.mem_of_mem_take hc))
    refine Nat.lt_of_lt_of_le h1 (Nat.le_trans (Nat.pow_le_pow_right (by omega) (?_ : _ ≤ 8)) (by decide))
    rw [List.length_take]; omega
  clear hR hK
  go_enter Tryd.func28, Tryd.ntmps28
  go_wp2_with fail
  go_loopw [3, 4] (fun x y wl => ∃ k : Nat, y = .int .i64 k ∧ k ≤ K ∧ k ≤ 8 ∧ x = .int .i64 (hexN ((bl s).take k)) ∧ Hid (Below w.heap.size w wl)) (fun _ y _ => s.size - (intOf y).toNat)
  case atStart => exact ⟨0, rfl, Nat.zero_le _, by omega, rfl, Below.refl _ _⟩
  case round =>
    obtain ⟨k, rfl, hk, h8, rfl, HB⟩ := hrel
    have hbn := HBND.out k hk h8
    by_cases hkK : k < K
    · have hks : k < s.size := by omega
      have hkb : k < (bl s).length := by rw [bl_len]; exact hks
      have IX := idx_s s k hks
      have hx := HAT.out k hkb hk
      rw [decide_eq_true hkK] at hx
      have HNX := Lib.hid (hexN_snoc ((bl s).take k) (bl s)[k])
      rw [← List.take_succ_eq_append_getElem hkb] at HNX
      obtain ⟨b, hb⟩ : ∃ z, (bl s)[k] = z := ⟨_, rfl⟩
      rw [hb] at IX hx HNX
      obtain ⟨v, hv, hv16, hv2⟩ := hexZ_pos hx
      have XC := Lib.hid (HX.out b)
      rw [hv] at XC
      rw [hv2] at HNX
      obtain ⟨m, hm⟩ : ∃ q, hexN ((bl s).take k) = q := ⟨_, rfl⟩
      rw [hm] at HNX hbn ⊢
      have i0 : (0 : Int) ≤ (k : Int) := by omega
      have i1 : (k : Int) < (s.size : Int) := by omega
      have t1 : decide ((0 : Int) ≤ (v : Int)) = true := decide_eq_true (by omega)
      have a1 : IntKind.i64.wrap ((m : Int) * 16) = (m : Int) * 16 := IntWalk.i64_in _ (by omega)
      have a2 : IntKind.i64.wrap ((m : Int) * 16 + (v : Int)) = ((m * 16 + v : Nat) : Int) := by rw [IntWalk.i64_in _ (by omega)]; omega
      clear hx hb hm hv hv2
      by_cases hk8 : k = 8
      · have hr : R = none := by rw [HE.out, if_pos (.inr (by omega))]
        subst hr
        have t2 : ((k : Int) == 8) = true := by simp [hk8]
        have t2' : (k == 8) = true := by simp [hk8]
        clear hk8
        go_wp2_with fail
        refine (XC.out _).mono ?_
        rintro e w1 ⟨rfl, rfl⟩
        go_wp2_with fail
        go_ret
        exact ⟨rfl, HB.out⟩
      · have t2 : ((k : Int) == 8) = false := beq_eq_false_iff_ne.2 (by omega)
        have t2' : (k == 8) = false := beq_eq_false_iff_ne.2 hk8
        have hk7 : k + 1 ≤ 8 := by omega
        clear hk8
        go_wp2_with fail
        refine (XC.out _).mono ?_
        rintro e w1 ⟨rfl, rfl⟩
        go_wp2_with fail
        refine (XC.out _).mono ?_
        rintro e w1 ⟨rfl, rfl⟩
        go_wp2_with fail
        go_roundw
        case rel => exact ⟨k + 1, by go_num, by omega, hk7, by rw [HNX.out]; go_num, HB.out⟩
        case measure => simp [intOf]; omega
    · obtain rfl : k = K := by omega
      have RNEG : Hid (k = 0 → R = none) := fun h => by rw [HE.out, if_pos (.inl h)]
      have tkl : ((bl s).take k).length = k := by rw [List.length_take, bl_len]; omega
      have x2 := ext_drop s k
      have TC := Lib.hid (fun wq => rtrim_calls (sb ((bl s).drop k)) (by rw [sb_size, List.length_drop, bl_len]; omega) wq)
      rw [bl_sb] at TC
      obtain ⟨N, hN⟩ : ∃ q, hexN ((bl s).take k) = q := ⟨_, rfl⟩
      rw [hN] at HF hbn ⊢
      by_cases hks : k < s.size
      · have hkb : k < (bl s).length := by rw [bl_len]; exact hks
        have IX := idx_s s k hks
        have hx := HAT.out k hkb (Nat.le_refl _)
        rw [decide_eq_false (Nat.lt_irrefl _)] at hx
        obtain ⟨b, hb⟩ : ∃ z, (bl s)[k] = z := ⟨_, rfl⟩
        rw [hb] at IX hx
        have XC := Lib.hid (HX.out b)
        rw [hexZ_neg hx] at XC
        have i0 : (0 : Int) ≤ (k : Int) := by omega
        have i1 : (k : Int) < (s.size : Int) := by omega
        have i2 : (k : Int) ≤ (s.size : Int) := by omega
        clear hx hb
        by_cases hk0 : k = 0
        · have hr : none = R := (RNEG.out hk0).symm
          subst hr
          have t2 : ((k : Int) == 0) = true := by simp [hk0]
          have t2' : (k == 0) = true := by simp [hk0]
          clear HF HE HAT HHX HBND TC RNEG hk0
          go_wp2_with fail
          refine (XC.out _).mono ?_
          rintro e w1 ⟨rfl, rfl⟩
          go_wp2_with fail
          go_ret
          exact ⟨rfl, HB.out⟩
        · have t2 : ((k : Int) == 0) = false := beq_eq_false_iff_ne.2 (by omega)
          have t2' : (k == 0) = false := beq_eq_false_iff_ne.2 hk0
          have HF2 := Lib.hid (HF.out hk0 h8)
          have HDR := Lib.hid (show ∀ j (hj : j < (bl s).length), j ≥ k → (bl s)[j] ∈ (bl s).drop k from fun j hj h => by
            rw [List.mem_iff_getElem]
            exact ⟨j - k, by rw [List.length_drop]; omega, by rw [List.getElem_drop]; congr 1; omega⟩)
          have HDX := Lib.hid (show ∀ c ∈ (bl s).drop k, ∃ j, ∃ (hj : j < (bl s).length), k ≤ j ∧ (bl s)[j] = c from fun c hc => by
            obtain ⟨j, hj, rfl⟩ := List.mem_iff_getElem.1 hc
            rw [List.length_drop] at hj
            exact ⟨k + j, by omega, by omega, by rw [List.getElem_drop]⟩)
          obtain ⟨T, hT⟩ : ∃ q, trimL ((bl s).drop k) = q := ⟨_, rfl⟩
          rw [hT] at HF2 TC
          obtain ⟨DR, hDR⟩ : ∃ q, sb ((bl s).drop k) = q := ⟨_, rfl⟩
          rw [hDR] at x2 TC
          obtain ⟨Q, hQ⟩ : ∃ q, (bl s).drop k = q := ⟨_, rfl⟩
          rw [hQ] at HF2 HDR HDX
          have HK0 := Lib.hid hk0
          clear hk0 hT hDR hQ HF HE HAT HHX HBND RNEG hN tkl
          go_wp2_with fail
          refine (XC.out _).mono ?_
          rintro e w1 ⟨rfl, rfl⟩
          go_wp2_with fail
          refine (TC.out _).mono ?_
          rintro e w3 ⟨rfl, b3⟩
          have B3 : Hid (Below w.heap.size w w3) := HB.out.trans (b3.mono HB.out.size)
          clear b3 TC HB XC
          cases T with
          | nil =>
            have m0 : ((sb []).toList != []) = false := by rw [Go.Lib.toList_data]; rfl
            have m1 : ((sb []).toList == []) = true := by rw [Go.Lib.toList_data]; rfl
            have hr : some N = R := by rw [HF2.out, if_pos rfl]
            subst hr
            clear HF2
            go_wp2_with fail
            go_ret
            exact ⟨rfl, B3.out⟩
          | cons hd tl =>
            have m0 : ((sb (hd :: tl)).toList == []) = false := by rw [Go.Lib.toList_data]; rfl
            have m1 : ((sb (hd :: tl)).toList != []) = true := by rw [Go.Lib.toList_data]; rfl
            have IX0 : (Instr.index 9 (.string (sb (hd :: tl))) (.int .i64 0)).run Tryd.prog w3 = .ok (.int .u8 (hd.toNat : Int)) w3 := by
              have h := idx_s (sb (hd :: tl)) 0 (by rw [sb_size]; exact Nat.succ_pos _) w3
              simp only [bl_sb, List.getElem_cons_zero] at h
              exact h
            have hsz0 : (sb (hd :: tl)).size = tl.length + 1 := by rw [sb_size]; rfl
            have hpz : (0 : Int) < ((sb (hd :: tl)).size : Int) := by rw [hsz0]; omega
            obtain ⟨h9, hh9⟩ : ∃ z, hd.toNat = z := ⟨_, rfl⟩
            rw [hh9] at IX0
            by_cases hsemi : h9 = 59
            · have e59 : hd = 59 := UInt8.toNat_inj.1 (hh9.trans hsemi)
              have u0 : ((h9 : Int) != 59) = false := by simp [hsemi]
              have u1 : (h9 != 59) = false := by simp [hsemi]
              have HNL : Hid (R = if Q.all ctlB = true then some N else none) := by
                show _ = _
                rw [HF2.out, if_neg (by simp), if_neg (fun h => h (by rw [e59]; rfl))]
              clear hh9 hsemi e59 HF2 hsz0
              go_wp2_with fail
              go_loopw [6] (fun x wl => ∃ i : Nat, x = .int .i64 i ∧ k ≤ i ∧ i ≤ s.size ∧ Hid (∀ j (hj : j < (bl s).length), k ≤ j → j < i → ctlB (bl s)[j] = true) ∧ wl = w3) (fun x _ => s.size - (intOf x).toNat)
              case atStart => exact ⟨k, rfl, Nat.le_refl _, by omega, fun j _ h1 h => by omega, rfl⟩
              case round =>
                obtain ⟨i, rfl, hki, hi, HJ, rfl⟩ := hrel
                by_cases hil : i < s.size
                · have hib : i < (bl s).length := by rw [bl_len]; exact hil
                  have IX := idx_s s i hil
                  obtain ⟨b9, hb9⟩ : ∃ z, (bl s)[i] = z := ⟨_, rfl⟩
                  have HB9 := Lib.hid hb9
                  rw [hb9] at IX
                  obtain ⟨k9, hk9⟩ : ∃ z, b9.toNat = z := ⟨_, rfl⟩
                  rw [hk9] at IX
                  have i0 : (0 : Int) ≤ (i : Int) := by omega
                  have i1 : (i : Int) < (s.size : Int) := by omega
                  by_cases hc : 9 ≤ k9 ∧ k9 ≠ 127
                  · have HJ2 : Hid (∀ j (hj : j < (bl s).length), k ≤ j → j < i + 1 → ctlB (bl s)[j] = true) := by
                      intro j hj h1 hlt
                      by_cases e : j = i
                      · subst e; rw [HB9.out]; unfold ctlB; rw [hk9]; exact decide_eq_true hc
                      · exact HJ.out j hj h1 (by omega)
                    have t1 : decide ((k9 : Int) < 9) = false := decide_eq_false (by omega)
                    have t3 : ((k9 : Int) == 127) = false := beq_eq_false_iff_ne.2 (by omega)
                    have t1' : decide (k9 < 9) = false := decide_eq_false (by omega)
                    have t3' : (k9 == 127) = false := beq_eq_false_iff_ne.2 hc.2
                    clear hb9 hk9 hc
                    go_wp2_with fail
                    go_roundw
                    case rel => exact ⟨i + 1, by go_num, by omega, by omega, HJ2.out, by first | rfl | trivial⟩
                    case measure => simp [intOf]; omega
                  · have hr : none = R := by
                      rw [HNL.out, if_neg]
                      intro ha
                      have := List.all_eq_true.1 ha (bl s)[i] (HDR.out i hib hki)
                      rw [HB9.out] at this
                      unfold ctlB at this
                      rw [hk9] at this
                      exact hc (of_decide_eq_true this)
                    subst hr
                    by_cases h9 : k9 < 9
                    · have t1 : decide ((k9 : Int) < 9) = true := decide_eq_true (by omega)
                      have t1' : decide (k9 < 9) = true := decide_eq_true h9
                      clear hb9 hk9 hc HNL
                      go_wp2_with fail
                      go_ret
                      exact ⟨rfl, B3.out⟩
                    · have t1 : decide ((k9 : Int) < 9) = false := decide_eq_false (by omega)
                      have t3 : ((k9 : Int) == 127) = true := by simp; omega
                      have t1' : decide (k9 < 9) = false := decide_eq_false h9
                      have t3' : (k9 == 127) = true := by simp; omega
                      clear hb9 hk9 hc HNL
                      go_wp2_with fail
                      go_ret
                      exact ⟨rfl, B3.out⟩
                · obtain rfl : i = s.size := by omega
                  have hr : some N = R := by
                    rw [HNL.out, if_pos]
                    rw [List.all_eq_true]
                    intro x hx
                    obtain ⟨j, hj, hkj, rfl⟩ := HDX.out x hx
                    exact HJ.out j hj hkj (by rw [← bl_len]; exact hj)
                  subst hr
                  clear HNL
                  go_wp2_with fail
                  go_ret
                  exact ⟨rfl, B3.out⟩
            · have hr : none = R := by
                rw [HF2.out, if_neg (by simp), if_pos]
                intro h
                simp only [List.head?_cons, Option.some.injEq] at h
                exact hsemi (by rw [← hh9, h]; rfl)
              subst hr
              have u0 : ((h9 : Int) != 59) = true := by simp; omega
              have u1 : (h9 != 59) = true := by simpa using hsemi
              clear hh9 hsemi HF2 hsz0
              go_wp2_with fail
              go_ret
              exact ⟨rfl, B3.out⟩
      · obtain rfl : k = s.size := by omega
        have dn : (bl s).drop s.size = [] := by rw [← bl_len]; exact List.drop_length
        rw [dn] at TC x2 HF
        have tn : trimL [] = [] := by rw [trimL_eq]; rfl
        rw [tn] at TC HF
        by_cases hk0 : s.size = 0
        · have hr : none = R := (RNEG.out hk0).symm
          subst hr
          have t2 : ((s.size : Int) == 0) = true := by simp [hk0]
          have t2' : (s.size == 0) = true := by simp [hk0]
          clear HF HE HAT HHX HBND TC RNEG hk0 dn tn
          go_wp2_with fail
          go_ret
          exact ⟨rfl, HB.out⟩
        · have t2 : ((s.size : Int) == 0) = false := beq_eq_false_iff_ne.2 (by omega)
          have t2' : (s.size == 0) = false := beq_eq_false_iff_ne.2 hk0
          have HF2 := Lib.hid (HF.out hk0 h8)
          have hr : some N = R := by rw [HF2.out, if_pos rfl]
          subst hr
          have m0 : ((sb []).toList != []) = false := by rw [Go.Lib.toList_data]; rfl
          have m1 : ((sb []).toList == []) = true := by rw [Go.Lib.toList_data]; rfl
          clear HF HE HAT HHX HBND RNEG hk0 dn tn HF2
          go_wp2_with fail
          refine (TC.out _).mono ?_
          rintro e w3 ⟨rfl, b3⟩
          have B3 : Hid (Below w.heap.size w w3) := HB.out.trans (b3.mono HB.out.size)
          clear b3 TC HB
          go_wp2_with fail
          go_ret
          exact ⟨rfl, B3.out⟩
#print axioms rsize_calls
end Go.Proofs.YtibhnkkfaochhaaDoor.Dec
