/-
  internal/strconv.ParseUint at base 16 and 32 bits, at hexadecimal digits.
-/
import Derived.Test.YtibhnkkfaochhaaDoorDec6
namespace Go.Proofs.YtibhnkkfaochhaaDoor.Dec
open Go.RowKit Go.Sep
open Go.Proofs.YtibhnkkfaochhaaDoor.Tok
open Go.Lib (strCells strCells_length)
set_option maxRecDepth 100000
set_option linter.unusedVariables false
set_option linter.unusedSimpArgs false

theorem or32_any (k : Nat) (h : k < 256) : bits .or .u8 (k : Int) 32 = ((k ||| 32 : Nat) : Int) := by
  have : ∀ k : Fin 256, bits .or .u8 (k.val : Int) 32 = ((k.val ||| 32 : Nat) : Int) := by decide +kernel
  exact this ⟨k, h⟩
theorem low1_calls (k : Nat) (h : k < 256) (w : World) : Calls Tryd.prog 62 #[.int .u8 k] w fun e w' => e = .returned (.int .u8 (k ||| 32 : Nat)) ∧ Below w.heap.size w w' := by
  have e1 := or32_any k h
  obtain ⟨z, hz⟩ : ∃ z, k ||| 32 = z := ⟨_, rfl⟩
  rw [hz] at e1 ⊢
  go_enter Tryd.func62, Tryd.ntmps62
  go_wp2_with fail
  go_ret
  exact ⟨rfl, Below.refl _ _⟩
#print axioms low1_calls
def errV (k : Int) : Value := .iface 96 (.int .i64 k)
/-- what ParseUint finds: none: too large -/
def puL : Nat → List UInt8 → Option Nat
  | n, [] => some n
  | n, c :: r => if 4294967295 < n * 16 + (hexV c).getD 0 then none else puL (n * 16 + (hexV c).getD 0) r
def PuC (l : List UInt8) (w : World) (e : Ending) (w' : World) : Prop :=
  e = .returned (if l = [] then .tuple #[.int .u64 0, errV 2] else match puL 0 l with | some n => .tuple #[.int .u64 n, .nilIface] | none => .tuple #[.int .u64 4294967295, errV 1]) ∧ Below w.heap.size w w'
theorem pu_empty (w : World) : Calls Tryd.prog 47 #[.string (sb []), .int .i64 16, .int .i64 32] w (PuC [] w) := by
  have e0 : ((sb []).toList == []) = true := by rw [Go.Lib.toList_data]; rfl
  unfold PuC errV
  go_enter Tryd.func47, Tryd.ntmps47
  go_wp2_with fail
  go_ret2
  exact ⟨by simp, Below.refl _ _⟩
#print axioms pu_empty
def puN (n : Nat) : List UInt8 → Value
  | [] => .tuple #[.int .u64 n, .nilIface]
  | l => match puL n l with | some n => .tuple #[.int .u64 n, .nilIface] | none => .tuple #[.int .u64 4294967295, errV 1]
theorem puN_eq (n : Nat) (l : List UInt8) : puN n l = match puL n l with | some n => .tuple #[.int .u64 n, .nilIface] | none => .tuple #[.int .u64 4294967295, errV 1] := by cases l <;> rfl
theorem puN_cons (n : Nat) (c : UInt8) (r : List UInt8) : puN n (c :: r) = if 4294967295 < n * 16 + (hexV c).getD 0 then .tuple #[.int .u64 4294967295, errV 1] else puN (n * 16 + (hexV c).getD 0) r := by
  by_cases hb : 4294967295 < n * 16 + (hexV c).getD 0
  · rw [if_pos hb, puN_eq, puL, if_pos hb]
  · rw [if_neg hb, puN_eq, puL, if_neg hb, puN_eq]
theorem hex_cases {c : UInt8} (h : isHex c = true) : ∃ v, (hexV c).getD 0 = v ∧ v < 16 ∧ ((48 ≤ c.toNat ∧ c.toNat ≤ 57 ∧ v = c.toNat - 48) ∨ (97 ≤ c.toNat ∧ c.toNat ≤ 102 ∧ c.toNat ||| 32 = c.toNat ∧ v = c.toNat - 87) ∨ (65 ≤ c.toNat ∧ c.toNat ≤ 70 ∧ c.toNat ||| 32 = c.toNat + 32 ∧ v = c.toNat - 55)) := by
  have k1 : ∀ k : Fin 256, 97 ≤ k.val → k.val ≤ 102 → k.val ||| 32 = k.val := by decide +kernel
  have k2 : ∀ k : Fin 256, 65 ≤ k.val → k.val ≤ 70 → k.val ||| 32 = k.val + 32 := by decide +kernel
  unfold isHex hexV at h
  unfold hexV
  split at h
  · rename_i h1
    rw [if_pos h1]
    exact ⟨_, rfl, by simp only [Option.getD]; omega, .inl ⟨h1.1, h1.2, rfl⟩⟩
  · rename_i h1
    rw [if_neg h1]
    split at h
    · rename_i h2
      rw [if_pos h2]
      exact ⟨_, rfl, by simp only [Option.getD]; omega, .inr (.inl ⟨h2.1, h2.2, k1 ⟨c.toNat, c.toNat_lt⟩ h2.1 h2.2, rfl⟩)⟩
    · rename_i h2
      rw [if_neg h2]
      split at h
      · rename_i h3
        rw [if_pos h3]
        exact ⟨_, rfl, by simp only [Option.getD]; omega, .inr (.inr ⟨h3.1, h3.2, k2 ⟨c.toNat, c.toNat_lt⟩ h3.1 h3.2, rfl⟩)⟩
      · cases h
set_option maxHeartbeats 8000000 in
theorem pu_calls (l : List UInt8) (hl : l.length ≤ 1048576) (hne : l ≠ []) (hh : ∀ c ∈ l, isHex c = true) (w : World) : Calls Tryd.prog 47 #[.string (sb l), .int .i64 16, .int .i64 32] w (fun e w' => e = .returned (puN 0 l) ∧ Below w.heap.size w w') := by
  have hsz : (sb l).size = l.length := sb_size l
  obtain ⟨v1, w1, hc, h1, s1⟩ := conv_row (P := Tryd.prog) (src := 9) (dst := 22) (e := 5) (sb l) Tryd.underlying9 Tryd.underlying22 Tryd.underlying5 (by rw [hsz]; exact hl) (holds_all w)
  rw [strCells_bc, bl_sb, hsz] at h1
  obtain ⟨g, cap, e1, hg, hcell⟩ := rowZ_cell h1
  subst e1
  have B1 := Lib.hid (Holds.below h1 s1)
  have e0 : ((sb l).toList == []) = false := by rw [Go.Lib.toList_data]; exact beq_eq_false_iff_ne.2 (by rw [show (sb l).data.toList = l from bl_sb l]; exact hne)
  have HH := Lib.hid hh
  have HCELL := Lib.hid hcell
  have LC := Lib.hid (fun k (h : k < 256) wq => low1_calls k h wq)
  obtain ⟨R, hR⟩ : ∃ q, puN 0 l = q := ⟨_, rfl⟩
  have HR := Lib.hid hR
  rw [hR]
  clear h1 s1 hh hcell hsz hne hR
  go_enter Tryd.func47, Tryd.ntmps47
  go_wp2_with fail
  clear hc
  go_loopw [12, 13, 101] (fun us y x wl => ∃ i n : Nat, us = .bool false ∧ x = .int .i64 i ∧ y = .int .u64 n ∧ i ≤ l.length ∧ n ≤ 4294967295 ∧ Hid (puN n (l.drop i) = R) ∧ Hid (Below w.heap.size w wl) ∧ Hid (∀ j u, (bc l)[j]? = some u → wl.cell? ⟨g, j, none⟩ = some u)) (fun _ _ x _ => l.length - (intOf x).toNat)
  case atStart => exact ⟨0, 0, rfl, rfl, rfl, Nat.zero_le _, by omega, HR.out, B1.out, HCELL.out⟩
  case round =>
    clear B1 HCELL
    obtain ⟨i, n, rfl, rfl, rfl, hi, hn, HP, HB, HC⟩ := hrel
    by_cases hil : i < l.length
    · have hx := HH.out l[i] (List.getElem_mem hil)
      obtain ⟨v, hv, hv16, hcase⟩ := hex_cases hx
      have hp := HP.out
      rw [List.drop_eq_getElem_cons hil, puN_cons, hv] at hp
      have c0 := HC.out i (.int .u8 (l[i].toNat : Int)) (by simp [bc, hil])
      obtain ⟨k, hk⟩ : ∃ k, l[i].toNat = k := ⟨_, rfl⟩
      have hk9 : k < 256 := by rw [← hk]; exact UInt8.toNat_lt _
      rw [hk] at c0 hcase
      have i0 : (0 : Int) ≤ (i : Int) := by omega
      have i1 : (i : Int) < (l.length : Int) := by omega
      have x2 : decide (1152921504606846976 ≤ (n : Int)) = false := decide_eq_false (by omega)
      have x3 : decide (1152921504606846976 ≤ n) = false := decide_eq_false (by omega)
      have x4 : decide ((16 : Int) ≤ (v : Int)) = false := decide_eq_false (by omega)
      have x5 : decide (16 ≤ v) = false := decide_eq_false (by omega)
      have w1' : IntKind.u64.wrap ((n : Int) * 16) = (n : Int) * 16 := IntWalk.u64_in _ (by omega)
      have w2' : IntKind.u64.wrap ((n : Int) * 16 + (v : Int)) = (n : Int) * 16 + (v : Int) := IntWalk.u64_in _ (by omega)
      have w3' : IntKind.u64.wrap (v : Int) = (v : Int) := IntWalk.u64_in _ (by omega)
      have x1 : decide ((n : Int) * 16 + (v : Int) < (n : Int) * 16) = false := decide_eq_false (by omega)
      have cs : (48 ≤ k ∧ k ≤ 57 ∧ v = k - 48) ∨ (∃ z, k ||| 32 = z ∧ 57 < k ∧ k ≠ 95 ∧ 97 ≤ z ∧ z ≤ 122 ∧ v + 87 = z) := by
        rcases hcase with h | ⟨h1, h2, h3, h4⟩ | ⟨h1, h2, h3, h4⟩
        · exact .inl h
        · exact .inr ⟨_, rfl, by omega, by omega, by omega, by omega, by omega⟩
        · exact .inr ⟨_, rfl, by omega, by omega, by omega, by omega, by omega⟩
      clear hcase hx hv hk HP
      by_cases hbig : 4294967295 < n * 16 + v
      · rw [if_pos hbig] at hp
        have HO := Lib.hid hp
        have x6 : decide ((4294967295 : Int) < (n : Int) * 16 + (v : Int)) = true := decide_eq_true (by omega)
        have x7 : decide (4294967295 < n * 16 + v) = true := decide_eq_true hbig
        unfold errV at HO
        clear hp hbig
        rcases cs with ⟨h1, h2, h3⟩ | ⟨z, hz, h1, h2, h3, h4, h5⟩
        · have d1 : decide ((48 : Int) ≤ (k : Int)) = true := decide_eq_true (by omega)
          have d2 : decide (48 ≤ k) = true := decide_eq_true h1
          have d3 : decide ((k : Int) ≤ 57) = true := decide_eq_true (by omega)
          have d4 : decide (k ≤ 57) = true := decide_eq_true h2
          have d5 : ((k : Int) == 95) = false := beq_eq_false_iff_ne.2 (by omega)
          have d6 : (k == 95) = false := beq_eq_false_iff_ne.2 (by omega)
          have d7 : IntKind.u8.wrap ((k : Int) - 48) = (v : Int) := by rw [show (k : Int) - 48 = v by omega]; exact IntWalk.u8_in _ (by omega)
          clear h1 h2 h3
          go_wp2_with fail
          go_ret2
          rw [← HO.out]
          exact ⟨rfl, HB.out⟩
        · have d1 : decide ((48 : Int) ≤ (k : Int)) = true := decide_eq_true (by omega)
          have d2 : decide (48 ≤ k) = true := decide_eq_true (by omega)
          have d3 : decide ((k : Int) ≤ 57) = false := decide_eq_false (by omega)
          have d4 : decide (k ≤ 57) = false := decide_eq_false (by omega)
          have d5 : ((k : Int) == 95) = false := beq_eq_false_iff_ne.2 (by omega)
          have d6 : (k == 95) = false := beq_eq_false_iff_ne.2 (by omega)
          have LZ := Lib.hid (fun wq => LC.out k hk9 wq)
          rw [hz] at LZ
          have f1 : decide ((97 : Int) ≤ (z : Int)) = true := decide_eq_true (by omega)
          have f2 : decide (97 ≤ z) = true := decide_eq_true h3
          have f3 : decide ((z : Int) ≤ 122) = true := decide_eq_true (by omega)
          have f4 : decide (z ≤ 122) = true := decide_eq_true h4
          have f5 : IntKind.u8.wrap ((z : Int) - 97) = (z : Int) - 97 := IntWalk.u8_in _ (by omega)
          have f6 : IntKind.u8.wrap ((z : Int) - 97 + 10) = (v : Int) := by rw [show (z : Int) - 97 + 10 = v by omega]; exact IntWalk.u8_in _ (by omega)
          clear h1 h2 h3 h4 h5 hz
          go_wp2_with fail
          refine (LZ.out _).mono ?_
          rintro e w3 ⟨rfl, b3⟩
          have B3 : Hid (Below w.heap.size w w3) := HB.out.trans (b3.mono HB.out.size)
          have C3 : Hid (∀ j u, (bc l)[j]? = some u → w3.cell? ⟨g, j, none⟩ = some u) := fun j u hu => (b3.cell (p := ⟨g, j, none⟩) (World.block_lt_of_cell? _ _ (HC.out j u hu))).trans (HC.out j u hu)
          clear b3 HB HC
          go_wp2_with fail
          refine (LZ.out _).mono ?_
          rintro e w4 ⟨rfl, b4⟩
          have B4 : Hid (Below w.heap.size w w4) := B3.out.trans (b4.mono B3.out.size)
          have C4 : Hid (∀ j u, (bc l)[j]? = some u → w4.cell? ⟨g, j, none⟩ = some u) := fun j u hu => (b4.cell (p := ⟨g, j, none⟩) (World.block_lt_of_cell? _ _ (C3.out j u hu))).trans (C3.out j u hu)
          clear b4 B3 C3
          go_wp2_with fail
          refine (LZ.out _).mono ?_
          rintro e w5 ⟨rfl, b5⟩
          have B5 : Hid (Below w.heap.size w w5) := B4.out.trans (b5.mono B4.out.size)
          have C5 : Hid (∀ j u, (bc l)[j]? = some u → w5.cell? ⟨g, j, none⟩ = some u) := fun j u hu => (b5.cell (p := ⟨g, j, none⟩) (World.block_lt_of_cell? _ _ (C4.out j u hu))).trans (C4.out j u hu)
          clear b5 B4 C4
          go_wp2_with fail
          go_ret2
          rw [← HO.out]
          exact ⟨rfl, B5.out⟩
      · rw [if_neg hbig] at hp
        have HN : Hid (puN (n * 16 + v) (l.drop (i + 1)) = R) := hp
        have x6 : decide ((4294967295 : Int) < (n : Int) * 16 + (v : Int)) = false := decide_eq_false (by omega)
        have x7 : decide (4294967295 < n * 16 + v) = false := decide_eq_false hbig
        clear hp
        rcases cs with ⟨h1, h2, h3⟩ | ⟨z, hz, h1, h2, h3, h4, h5⟩
        · have d1 : decide ((48 : Int) ≤ (k : Int)) = true := decide_eq_true (by omega)
          have d2 : decide (48 ≤ k) = true := decide_eq_true h1
          have d3 : decide ((k : Int) ≤ 57) = true := decide_eq_true (by omega)
          have d4 : decide (k ≤ 57) = true := decide_eq_true h2
          have d5 : ((k : Int) == 95) = false := beq_eq_false_iff_ne.2 (by omega)
          have d6 : (k == 95) = false := beq_eq_false_iff_ne.2 (by omega)
          have d7 : IntKind.u8.wrap ((k : Int) - 48) = (v : Int) := by rw [show (k : Int) - 48 = v by omega]; exact IntWalk.u8_in _ (by omega)
          clear h1 h2 h3
          go_wp2_with fail
          go_roundw
          case rel => exact ⟨i + 1, n * 16 + v, rfl, by go_num, by go_num, by omega, by omega, HN.out, HB.out, HC.out⟩
          case measure => simp [intOf]; omega
        · have d1 : decide ((48 : Int) ≤ (k : Int)) = true := decide_eq_true (by omega)
          have d2 : decide (48 ≤ k) = true := decide_eq_true (by omega)
          have d3 : decide ((k : Int) ≤ 57) = false := decide_eq_false (by omega)
          have d4 : decide (k ≤ 57) = false := decide_eq_false (by omega)
          have d5 : ((k : Int) == 95) = false := beq_eq_false_iff_ne.2 (by omega)
          have d6 : (k == 95) = false := beq_eq_false_iff_ne.2 (by omega)
          have LZ := Lib.hid (fun wq => LC.out k hk9 wq)
          rw [hz] at LZ
          have f1 : decide ((97 : Int) ≤ (z : Int)) = true := decide_eq_true (by omega)
          have f2 : decide (97 ≤ z) = true := decide_eq_true h3
          have f3 : decide ((z : Int) ≤ 122) = true := decide_eq_true (by omega)
          have f4 : decide (z ≤ 122) = true := decide_eq_true h4
          have f5 : IntKind.u8.wrap ((z : Int) - 97) = (z : Int) - 97 := IntWalk.u8_in _ (by omega)
          have f6 : IntKind.u8.wrap ((z : Int) - 97 + 10) = (v : Int) := by rw [show (z : Int) - 97 + 10 = v by omega]; exact IntWalk.u8_in _ (by omega)
          clear h1 h2 h3 h4 h5 hz
          go_wp2_with fail
          refine (LZ.out _).mono ?_
          rintro e w3 ⟨rfl, b3⟩
          have B3 : Hid (Below w.heap.size w w3) := HB.out.trans (b3.mono HB.out.size)
          have C3 : Hid (∀ j u, (bc l)[j]? = some u → w3.cell? ⟨g, j, none⟩ = some u) := fun j u hu => (b3.cell (p := ⟨g, j, none⟩) (World.block_lt_of_cell? _ _ (HC.out j u hu))).trans (HC.out j u hu)
          clear b3 HB HC
          go_wp2_with fail
          refine (LZ.out _).mono ?_
          rintro e w4 ⟨rfl, b4⟩
          have B4 : Hid (Below w.heap.size w w4) := B3.out.trans (b4.mono B3.out.size)
          have C4 : Hid (∀ j u, (bc l)[j]? = some u → w4.cell? ⟨g, j, none⟩ = some u) := fun j u hu => (b4.cell (p := ⟨g, j, none⟩) (World.block_lt_of_cell? _ _ (C3.out j u hu))).trans (C3.out j u hu)
          clear b4 B3 C3
          go_wp2_with fail
          refine (LZ.out _).mono ?_
          rintro e w5 ⟨rfl, b5⟩
          have B5 : Hid (Below w.heap.size w w5) := B4.out.trans (b5.mono B4.out.size)
          have C5 : Hid (∀ j u, (bc l)[j]? = some u → w5.cell? ⟨g, j, none⟩ = some u) := fun j u hu => (b5.cell (p := ⟨g, j, none⟩) (World.block_lt_of_cell? _ _ (C4.out j u hu))).trans (C4.out j u hu)
          clear b5 B4 C4
          go_wp2_with fail
          go_roundw
          case rel => exact ⟨i + 1, n * 16 + v, rfl, by go_num, by go_num, by omega, by omega, HN.out, B5.out, C5.out⟩
          case measure => simp [intOf]; omega
    · obtain rfl : i = l.length := by omega
      have hp := HP.out
      rw [List.drop_length] at hp
      have HO : Hid (.tuple #[.int .u64 n, .nilIface] = R) := hp
      clear HP HC hp
      go_wp2_with fail
      go_ret2
      rw [← HO.out]
      exact ⟨rfl, HB.out⟩
#print axioms pu_calls
end Go.Proofs.YtibhnkkfaochhaaDoor.Dec
