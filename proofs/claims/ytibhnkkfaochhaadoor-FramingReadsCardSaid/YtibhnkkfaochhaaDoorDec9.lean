/-
  Layer 6: the size of a chunk's line.
-/
import Derived.Test.YtibhnkkfaochhaaDoorDec8
namespace Go.Proofs.YtibhnkkfaochhaaDoor.Dec
open Go.RowKit Go.Sep
open Go.Proofs.YtibhnkkfaochhaaDoor.Tok
set_option maxRecDepth 100000
set_option linter.unusedVariables false
set_option linter.unusedSimpArgs false

theorem puL_ok : ∀ (l : List UInt8) (n j : Nat), n < 16 ^ j → j + l.length ≤ 8 → (∀ c ∈ l, isHex c = true) → puL n l = some (l.foldl (fun n c => n * 16 + (hexV c).getD 0) n)
  | [], n, j, _, _, _ => rfl
  | c :: r, n, j, hn, hj, hh => by
    obtain ⟨v, hv, hv16, -⟩ := hex_cases (hh c (List.mem_cons_self ..))
    have h1 : n * 16 + (hexV c).getD 0 < 16 ^ (j + 1) := by rw [hv, Nat.pow_succ]; omega
    have h2 : 16 ^ (j + 1) ≤ 16 ^ 8 := Nat.pow_le_pow_right (by omega) (by simp at hj; omega)
    rw [puL, if_neg (by have : (16 : Nat) ^ 8 = 4294967296 := by decide
                        omega), List.foldl_cons]
    exact puL_ok r _ (j + 1) h1 (by simp at hj; omega) fun x hx => hh x (List.mem_cons_of_mem _ hx)
theorem hexN_ok (l : List UInt8) (h8 : l.length ≤ 8) (hh : ∀ c ∈ l, isHex c = true) : puL 0 l = some (hexN l) := puL_ok l 0 0 (by decide) (by omega) hh
def hexB : List UInt8 := [48, 49, 50, 51, 52, 53, 54, 55, 56, 57, 97, 98, 99, 100, 101, 102, 65, 66, 67, 68, 69, 70]
theorem ix_hex (k : Nat) (h : k < 256) : decide (0 ≤ Go.Lib.indexByte hexB (UInt8.ofNat k)) = isHex (UInt8.ofNat k) := by
  have : ∀ k : Fin 256, decide (0 ≤ Go.Lib.indexByte hexB (UInt8.ofNat k.val)) = isHex (UInt8.ofNat k.val) := by decide +kernel
  exact this ⟨k, h⟩
theorem ixb_calls (b : UInt8) (w : World) : Calls Tryd.prog 32 #[.string ⟨#[48, 49, 50, 51, 52, 53, 54, 55, 56, 57, 97, 98, 99, 100, 101, 102, 65, 66, 67, 68, 69, 70]⟩, .int .u8 (b.toNat : Int)] w fun e w' => (∃ z : Int, e = .returned (.int .i64 z) ∧ decide (0 ≤ z) = isHex b) ∧ Below w.heap.size w w' := by
  refine (Go.Proofs.Any.strings_IndexByte Tryd.lays137 _ (b.toNat : Int) w).mono ?_
  rintro e w' ⟨rfl, hw⟩
  refine ⟨⟨_, rfl, ?_⟩, by subst hw; exact Below.refl _ _⟩
  have e1 : (Int.toNat (b.toNat : Int)).toUInt8 = UInt8.ofNat b.toNat := by simp
  rw [e1, show UInt8.ofNat b.toNat = b by simp]
  have := ix_hex b.toNat b.toNat_lt
  rw [show UInt8.ofNat b.toNat = b by simp] at this
  exact this
#print axioms ixb_calls
theorem hexK_le (l : List UInt8) : hexK l ≤ l.length := (List.takeWhile_sublist _).length_le
theorem hexK_take (l : List UInt8) : l.take (hexK l) = l.takeWhile isHex := by
  unfold hexK
  conv => lhs; rw [← List.takeWhile_append_dropWhile (p := isHex) (l := l)]
  rw [List.take_append_of_le_length (by rw [List.takeWhile_append_dropWhile]; exact Nat.le_refl _), List.takeWhile_append_dropWhile, List.take_length]
theorem hexK_hex (l : List UInt8) : ∀ c ∈ l.take (hexK l), isHex c = true := by
  rw [hexK_take]
  intro c hc
  exact List.all_eq_true.1 List.all_takeWhile c hc
theorem hexK_at : ∀ (l : List UInt8) (k : Nat) (h : k < l.length), k ≤ hexK l → isHex l[k] = decide (k < hexK l)
  | [], k, h, _ => by simp at h
  | b :: l, 0, _, _ => by
    unfold hexK
    rw [List.takeWhile_cons]
    simp only [List.getElem_cons_zero]
    cases hb : isHex b <;> simp
  | b :: l, k + 1, h, hk => by
    unfold hexK at hk ⊢
    rw [List.takeWhile_cons] at hk ⊢
    simp only [List.getElem_cons_succ]
    cases hb : isHex b with
    | false => rw [hb] at hk; simp at hk
    | true =>
      rw [hb] at hk
      simp only [if_true, List.length_cons] at hk ⊢
      have := hexK_at l k (by simpa using h) (by unfold hexK; omega)
      unfold hexK at this
      rw [this]
      by_cases h9 : k < (l.takeWhile isHex).length
      · rw [decide_eq_true h9, decide_eq_true (by omega)]
      · rw [decide_eq_false h9, decide_eq_false (by omega)]
#print axioms hexK_at
def ctlB (c : UInt8) : Bool := decide (9 ≤ c.toNat ∧ c.toNat ≠ 127)
def SizeC (r : Option Nat) (w : World) (e : Ending) (w' : World) : Prop := e = .returned (.tuple #[.int .i64 (r.getD 0 : Nat), .bool r.isSome]) ∧ Below w.heap.size w w'
theorem sizeL_eq (l : List UInt8) : sizeL l = if hexK l = 0 ∨ 8 < hexK l then none else if trimL (l.drop (hexK l)) ≠ [] ∧ (trimL (l.drop (hexK l))).head? ≠ some 59 then none else if (l.all ctlB) = true then some (hexN (l.take (hexK l))) else none := rfl
theorem hexN_lt : ∀ (l : List UInt8) (n j : Nat), n < 16 ^ j → (∀ c ∈ l, isHex c = true) → l.foldl (fun n c => n * 16 + (hexV c).getD 0) n < 16 ^ (j + l.length)
  | [], n, j, hn, _ => by simpa using hn
  | c :: r, n, j, hn, hh => by
    obtain ⟨v, hv, hv16, -⟩ := hex_cases (hh c (List.mem_cons_self ..))
    rw [List.foldl_cons, List.length_cons, show j + (r.length + 1) = j + 1 + r.length by omega]
    exact hexN_lt r _ (j + 1) (by rw [hv, Nat.pow_succ]; omega) fun x hx => hh x (List.mem_cons_of_mem _ hx)
set_option maxHeartbeats 8000000 in
theorem size_calls (s : ByteArray) (hs : s.size ≤ 1048576) (w : World) (hv : Vars w) : Calls Tryd.prog 25 #[.string s] w (SizeC (sizeL (bl s)) w) := by
  have IB := Lib.hid (fun b wq => ixb_calls b wq)
  have HV := Lib.hid hv
  have HSZ := Lib.hid (sizeL_eq (bl s))
  obtain ⟨R, hR⟩ : ∃ q, sizeL (bl s) = q := ⟨_, rfl⟩
  rw [hR] at HSZ ⊢
  have hKle : hexK (bl s) ≤ s.size := by have := hexK_le (bl s); rw [bl_len] at this; exact this
  have HAT := Lib.hid (hexK_at (bl s))
  have HHX := Lib.hid (hexK_hex (bl s))
  obtain ⟨K, hK⟩ : ∃ q, hexK (bl s) = q := ⟨_, rfl⟩
  rw [hK] at HSZ hKle HAT HHX
  clear hv hR hK
  go_enter Tryd.func25, Tryd.ntmps25
  go_wp2_with fail
  go_loopw [4] (fun x wl => ∃ k : Nat, x = .int .i64 k ∧ k ≤ K ∧ Hid (Below w.heap.size w wl)) (fun x _ => s.size - (intOf x).toNat)
  case atStart => exact ⟨0, rfl, Nat.zero_le _, Below.refl _ _⟩
  case round =>
    obtain ⟨k, rfl, hk, HB⟩ := hrel
    by_cases hkK : k < K
    · have hks : k < s.size := by omega
      have hkb : k < (bl s).length := by rw [bl_len]; exact hks
      have IX := idx_s s k hks
      have hx := HAT.out k hkb hk
      rw [decide_eq_true hkK] at hx
      obtain ⟨b, hb⟩ : ∃ z, (bl s)[k] = z := ⟨_, rfl⟩
      rw [hb] at IX hx
      have BC := Lib.hid (IB.out b wr)
      rw [hx] at BC
      have i0 : (0 : Int) ≤ (k : Int) := by omega
      have i1 : (k : Int) < (s.size : Int) := by omega
      clear hx hb
      go_wp2_with fail
      refine (BC.out).mono ?_
      rintro e w1 ⟨⟨z, rfl, hz⟩, b1⟩
      have B1 : Hid (Below w.heap.size w w1) := HB.out.trans (b1.mono HB.out.size)
      clear b1 BC
      go_wp2_with fail
      go_roundw
      case rel => exact ⟨k + 1, by go_num, by omega, B1.out⟩
      case measure => simp [intOf]; omega
    · obtain rfl : k = K := by omega
      by_cases hks : k < s.size
      · have hkb : k < (bl s).length := by rw [bl_len]; exact hks
        have IX := idx_s s k hks
        have hx := HAT.out k hkb (Nat.le_refl _)
        rw [decide_eq_false (Nat.lt_irrefl _)] at hx
        obtain ⟨b, hb⟩ : ∃ z, (bl s)[k] = z := ⟨_, rfl⟩
        rw [hb] at IX hx
        have BC := Lib.hid (IB.out b wr)
        rw [hx] at BC
        have i0 : (0 : Int) ≤ (k : Int) := by omega
        have i1 : (k : Int) < (s.size : Int) := by omega
        clear hx hb
        go_wp2_with fail
        refine (BC.out).mono ?_
        rintro e w1 ⟨⟨z, rfl, hz⟩, b1⟩
        have B1 : Hid (Below w.heap.size w w1) := HB.out.trans (b1.mono HB.out.size)
        clear b1 BC
        go_wp2_with fail
        rw [ext_take s k hKle]
        have SP := Lib.hid (spu_calls ((bl s).take k) (by rw [List.length_take, bl_len]; omega) HHX.out _ (HV.out.grow B1.out))
        have x2 := ext_drop s k
        have TC := Lib.hid (fun wq => trim_calls (sb ((bl s).drop k)) (by rw [sb_size, List.length_drop, bl_len]; omega) wq)
        rw [bl_sb] at TC
        have tkl : ((bl s).take k).length = k := by rw [List.length_take, bl_len]; omega
        have TKL := Lib.hid tkl
        obtain ⟨T, hT⟩ : ∃ q, trimL ((bl s).drop k) = q := ⟨_, rfl⟩
        rw [hT] at HSZ TC
        obtain ⟨DR, hDR⟩ : ∃ q, sb ((bl s).drop k) = q := ⟨_, rfl⟩
        rw [hDR] at x2 TC
        have g1 : (0 : Int) ≤ (k : Int) := by omega
        have g2 : (k : Int) ≤ (s.size : Int) := by omega
        clear tkl hT hDR IB HAT
        refine (SP.out).mono ?_
        rintro e w2 ⟨n, ev, rfl, SR, b2⟩
        have B2 : Hid (Below w.heap.size w w2) := B1.out.trans (b2.out.mono B1.out.size)
        clear b2 SP B1
        go_wp2_with fail
        refine (TC.out _).mono ?_
        rintro e w3 ⟨rfl, b3⟩
        have B3 : Hid (Below w.heap.size w w3) := B2.out.trans (b3.mono B2.out.size)
        clear b3 TC B2
        rcases SR.out with ⟨hn0, hpu, rfl⟩ | ⟨hbad, a9, rfl⟩
        · have k0 : k ≠ 0 := fun h => hn0 (List.eq_nil_of_length_eq_zero (by rw [TKL.out]; exact h))
          by_cases h8 : 8 < k
          · have hr : none = R := by rw [HSZ.out, if_pos (.inr h8)]
            have t1 : decide ((8 : Int) < (k : Int)) = true := decide_eq_true (by omega)
            have t2 : decide (8 < k) = true := decide_eq_true h8
            subst hr
            clear HSZ SR hpu hn0
            go_wp2_with fail
            go_ret2
            exact ⟨rfl, B3.out⟩
          · have t1 : decide ((8 : Int) < (k : Int)) = false := decide_eq_false (by omega)
            have t2 : decide (8 < k) = false := decide_eq_false h8
            have NEQ : Hid (n = hexN ((bl s).take k)) := Option.some.inj (hpu.symm.trans (hexN_ok _ (by rw [TKL.out]; omega) HHX.out))
            have NLT : Hid (n < 4294967296) := by
              show _ < _
              rw [NEQ.out]
              have h1 := hexN_lt ((bl s).take k) 0 0 (by decide) HHX.out
              rw [TKL.out, Nat.zero_add] at h1
              exact Nat.lt_of_lt_of_le h1 (Nat.le_trans (Nat.pow_le_pow_right (by omega) (by omega : k ≤ 8)) (by decide))
            have HS2 : Hid (R = if T ≠ [] ∧ T.head? ≠ some 59 then none else if ((bl s).all ctlB) = true then some (hexN ((bl s).take k)) else none) := by
              show _ = _
              rw [HSZ.out, if_neg (by omega)]
            clear SR hpu hn0
            cases T with
            | nil =>
              have m0 : ((sb []).toList != []) = false := by rw [Go.Lib.toList_data]; rfl
              have m1 : ((sb []).toList == []) = true := by rw [Go.Lib.toList_data]; rfl
              have HNL : Hid (R = if ((bl s).all ctlB) = true then some (hexN ((bl s).take k)) else none) := by
                show _ = _
                rw [HS2.out, if_neg (by simp)]
              have NN : Hid (n = hexN ((bl s).take k)) := NEQ.out
              have NB : Hid (n < 4294967296) := NLT.out
              clear HSZ HS2
              go_wp2_with fail
              go_loopw [50] (fun x wl => ∃ i : Nat, x = .int .i64 i ∧ i ≤ s.size ∧ Hid (∀ j (hj : j < (bl s).length), j < i → ctlB (bl s)[j] = true) ∧ wl = w3) (fun x _ => s.size - (intOf x).toNat)
              case atStart => exact ⟨0, rfl, Nat.zero_le _, fun j _ h => by omega, rfl⟩
              case round =>
                obtain ⟨i, rfl, hi, HJ, rfl⟩ := hrel
                by_cases hil : i < s.size
                · have hib : i < (bl s).length := by rw [bl_len]; exact hil
                  have IX := idx_s s i hil
                  obtain ⟨b9, hb9⟩ : ∃ z, (bl s)[i] = z := ⟨_, rfl⟩
                  have HB9 := Lib.hid hb9
                  rw [hb9] at IX
                  obtain ⟨k9, hk9⟩ : ∃ z, b9.toNat = z := ⟨_, rfl⟩
                  rw [hk9] at IX
                  have i0 : (0 : Int) ≤ (i : Int) := by omega
                  have i1 : (i : Int) < (s.size : Int) := by omega
                  by_cases hc : 9 ≤ k9 ∧ k9 ≠ 127
                  · have HJ2 : Hid (∀ j (hj : j < (bl s).length), j < i + 1 → ctlB (bl s)[j] = true) := by
                      intro j hj hlt
                      by_cases e : j = i
                      · subst e; rw [HB9.out]; unfold ctlB; rw [hk9]; exact decide_eq_true hc
                      · exact HJ.out j hj (by omega)
                    have t1 : decide ((k9 : Int) < 9) = false := decide_eq_false (by omega)
                    have t2 : decide (k9 < 9) = false := decide_eq_false (by omega)
                    have t3 : ((k9 : Int) == 127) = false := beq_eq_false_iff_ne.2 (by omega)
                    have t4 : (k9 == 127) = false := beq_eq_false_iff_ne.2 hc.2
                    clear hb9 hk9 hc
                    go_wp2_with fail
                    go_roundw
                    case rel => exact ⟨i + 1, by go_num, by omega, HJ2.out, by first | rfl | trivial⟩
                    case measure => simp [intOf]; omega
                  · have hr : none = R := by
                      rw [HNL.out, if_neg]
                      intro ha
                      have := List.all_eq_true.1 ha (bl s)[i] (List.getElem_mem hib)
                      rw [HB9.out] at this
                      unfold ctlB at this
                      rw [hk9] at this
                      exact hc (of_decide_eq_true this)
                    subst hr
                    by_cases h9 : k9 < 9
                    · have t1 : decide ((k9 : Int) < 9) = true := decide_eq_true (by omega)
                      have t2 : decide (k9 < 9) = true := decide_eq_true h9
                      clear hb9 hk9 hc HNL
                      go_wp2_with fail
                      go_ret2
                      exact ⟨rfl, B3.out⟩
                    · have t1 : decide ((k9 : Int) < 9) = false := decide_eq_false (by omega)
                      have t2 : decide (k9 < 9) = false := decide_eq_false h9
                      have t3 : ((k9 : Int) == 127) = true := by simp; omega
                      have t4 : (k9 == 127) = true := by simp; omega
                      clear hb9 hk9 hc HNL
                      go_wp2_with fail
                      go_ret2
                      exact ⟨rfl, B3.out⟩
                · obtain rfl : i = s.size := by omega
                  have hr : some n = R := by
                    rw [HNL.out, if_pos, NN.out]
                    rw [List.all_eq_true]
                    intro x hx
                    obtain ⟨j, hj, rfl⟩ := List.getElem_of_mem hx
                    exact HJ.out j hj (by rw [← bl_len]; exact hj)
                  subst hr
                  have nb := NB.out
                  have cv : IntKind.i64.wrap (n : Int) = (n : Int) := IntWalk.i64_in _ (by omega)
                  clear HNL
                  go_wp2_with fail
                  go_ret2
                  exact ⟨rfl, B3.out⟩
            | cons hd tl =>
              have m0 : ((sb (hd :: tl)).toList == []) = false := by rw [Go.Lib.toList_data]; rfl
              have m1 : ((sb (hd :: tl)).toList != []) = true := by rw [Go.Lib.toList_data]; rfl
              have IX0 : (Instr.index 9 (.string (sb (hd :: tl))) (.int .i64 0)).run Tryd.prog w3 = .ok (.int .u8 (hd.toNat : Int)) w3 := by
                have h := idx_s (sb (hd :: tl)) 0 (by rw [sb_size]; exact Nat.succ_pos _) w3
                simp only [bl_sb, List.getElem_cons_zero] at h
                exact h
              obtain ⟨h9, hh9⟩ : ∃ z, hd.toNat = z := ⟨_, rfl⟩
              rw [hh9] at IX0
              by_cases hsemi : h9 = 59
              · have e59 : hd = 59 := UInt8.toNat_inj.1 (hh9.trans hsemi)
                have u0 : ((h9 : Int) != 59) = false := by simp [hsemi]
                have u1 : (h9 != 59) = false := by simp [hsemi]
                have HS3 : Hid (R = if ((bl s).all ctlB) = true then some (hexN ((bl s).take k)) else none) := by
                  show _ = _
                  rw [HS2.out, if_neg]
                  rintro ⟨-, h⟩
                  exact h (by rw [e59]; rfl)
                clear hh9 hsemi e59 HS2
                have HNL : Hid (R = if ((bl s).all ctlB) = true then some (hexN ((bl s).take k)) else none) := HS3.out
                have NN : Hid (n = hexN ((bl s).take k)) := NEQ.out
                have NB : Hid (n < 4294967296) := NLT.out
                clear HSZ
                go_wp2_with fail
                go_loopw [50] (fun x wl => ∃ i : Nat, x = .int .i64 i ∧ i ≤ s.size ∧ Hid (∀ j (hj : j < (bl s).length), j < i → ctlB (bl s)[j] = true) ∧ wl = w3) (fun x _ => s.size - (intOf x).toNat)
                case atStart => exact ⟨0, rfl, Nat.zero_le _, fun j _ h => by omega, rfl⟩
                case round =>
                  obtain ⟨i, rfl, hi, HJ, rfl⟩ := hrel
                  by_cases hil : i < s.size
                  · have hib : i < (bl s).length := by rw [bl_len]; exact hil
                    have IX := idx_s s i hil
                    obtain ⟨b9, hb9⟩ : ∃ z, (bl s)[i] = z := ⟨_, rfl⟩
                    have HB9 := Lib.hid hb9
                    rw [hb9] at IX
                    obtain ⟨k9, hk9⟩ : ∃ z, b9.toNat = z := ⟨_, rfl⟩
                    rw [hk9] at IX
                    have i0 : (0 : Int) ≤ (i : Int) := by omega
                    have i1 : (i : Int) < (s.size : Int) := by omega
                    by_cases hc : 9 ≤ k9 ∧ k9 ≠ 127
                    · have HJ2 : Hid (∀ j (hj : j < (bl s).length), j < i + 1 → ctlB (bl s)[j] = true) := by
                        intro j hj hlt
                        by_cases e : j = i
                        · subst e; rw [HB9.out]; unfold ctlB; rw [hk9]; exact decide_eq_true hc
                        · exact HJ.out j hj (by omega)
                      have t1 : decide ((k9 : Int) < 9) = false := decide_eq_false (by omega)
                      have t2 : decide (k9 < 9) = false := decide_eq_false (by omega)
                      have t3 : ((k9 : Int) == 127) = false := beq_eq_false_iff_ne.2 (by omega)
                      have t4 : (k9 == 127) = false := beq_eq_false_iff_ne.2 hc.2
                      clear hb9 hk9 hc
                      go_wp2_with fail
                      go_roundw
                      case rel => exact ⟨i + 1, by go_num, by omega, HJ2.out, by first | rfl | trivial⟩
                      case measure => simp [intOf]; omega
                    · have hr : none = R := by
                        rw [HNL.out, if_neg]
                        intro ha
                        have := List.all_eq_true.1 ha (bl s)[i] (List.getElem_mem hib)
                        rw [HB9.out] at this
                        unfold ctlB at this
                        rw [hk9] at this
                        exact hc (of_decide_eq_true this)
                      subst hr
                      by_cases h9 : k9 < 9
                      · have t1 : decide ((k9 : Int) < 9) = true := decide_eq_true (by omega)
                        have t2 : decide (k9 < 9) = true := decide_eq_true h9
                        clear hb9 hk9 hc HNL
                        go_wp2_with fail
                        go_ret2
                        exact ⟨rfl, B3.out⟩
                      · have t1 : decide ((k9 : Int) < 9) = false := decide_eq_false (by omega)
                        have t2 : decide (k9 < 9) = false := decide_eq_false h9
                        have t3 : ((k9 : Int) == 127) = true := by simp; omega
                        have t4 : (k9 == 127) = true := by simp; omega
                        clear hb9 hk9 hc HNL
                        go_wp2_with fail
                        go_ret2
                        exact ⟨rfl, B3.out⟩
                  · obtain rfl : i = s.size := by omega
                    have hr : some n = R := by
                      rw [HNL.out, if_pos, NN.out]
                      rw [List.all_eq_true]
                      intro x hx
                      obtain ⟨j, hj, rfl⟩ := List.getElem_of_mem hx
                      exact HJ.out j hj (by rw [← bl_len]; exact hj)
                    subst hr
                    have nb := NB.out
                    have cv : IntKind.i64.wrap (n : Int) = (n : Int) := IntWalk.i64_in _ (by omega)
                    clear HNL
                    go_wp2_with fail
                    go_ret2
                    exact ⟨rfl, B3.out⟩
              · have u0 : ((h9 : Int) != 59) = true := by simp; omega
                have u1 : (h9 != 59) = true := by simpa using hsemi
                have hr : none = R := by
                  rw [HS2.out, if_pos]
                  refine ⟨by simp, fun h => hsemi ?_⟩
                  have := Option.some.inj h
                  rw [← hh9, this]; rfl
                subst hr
                clear HSZ HS2 hh9 hsemi
                go_wp2_with fail
                go_ret2
                exact ⟨rfl, B3.out⟩
        · have hr : none = R := by
            rw [HSZ.out, if_pos]
            rcases hbad with h | h
            · exact .inl (by have := TKL.out; rw [h] at this; exact this.symm)
            · by_cases h8 : 8 < k
              · exact .inr h8
              · rw [hexN_ok _ (by rw [TKL.out]; omega) HHX.out] at h
                cases h
          subst hr
          clear HSZ SR hbad
          go_wp2_with fail
          go_ret2
          exact ⟨rfl, B3.out⟩
      · have hks2 : decide ((k : Int) < (s.size : Int)) = false := decide_eq_false (by omega)
        have hks3 : decide (k < s.size) = false := decide_eq_false hks
        go_wp2_with fail
        rw [ext_take s k hKle]
        have SP := Lib.hid (spu_calls ((bl s).take k) (by rw [List.length_take, bl_len]; omega) HHX.out _ (HV.out.grow HB.out))
        have x2 := ext_drop s k
        have TC := Lib.hid (fun wq => trim_calls (sb ((bl s).drop k)) (by rw [sb_size, List.length_drop, bl_len]; omega) wq)
        rw [bl_sb] at TC
        have tkl : ((bl s).take k).length = k := by rw [List.length_take, bl_len]; omega
        have TKL := Lib.hid tkl
        obtain ⟨T, hT⟩ : ∃ q, trimL ((bl s).drop k) = q := ⟨_, rfl⟩
        rw [hT] at HSZ TC
        obtain ⟨DR, hDR⟩ : ∃ q, sb ((bl s).drop k) = q := ⟨_, rfl⟩
        rw [hDR] at x2 TC
        have g1 : (0 : Int) ≤ (k : Int) := by omega
        have g2 : (k : Int) ≤ (s.size : Int) := by omega
        clear tkl hT hDR IB HAT
        refine (SP.out).mono ?_
        rintro e w2 ⟨n, ev, rfl, SR, b2⟩
        have B2 : Hid (Below w.heap.size w w2) := HB.out.trans (b2.out.mono HB.out.size)
        clear b2 SP HB
        go_wp2_with fail
        refine (TC.out _).mono ?_
        rintro e w3 ⟨rfl, b3⟩
        have B3 : Hid (Below w.heap.size w w3) := B2.out.trans (b3.mono B2.out.size)
        clear b3 TC B2
        rcases SR.out with ⟨hn0, hpu, rfl⟩ | ⟨hbad, a9, rfl⟩
        · have k0 : k ≠ 0 := fun h => hn0 (List.eq_nil_of_length_eq_zero (by rw [TKL.out]; exact h))
          by_cases h8 : 8 < k
          · have hr : none = R := by rw [HSZ.out, if_pos (.inr h8)]
            have t1 : decide ((8 : Int) < (k : Int)) = true := decide_eq_true (by omega)
            have t2 : decide (8 < k) = true := decide_eq_true h8
            subst hr
            clear HSZ SR hpu hn0
            go_wp2_with fail
            go_ret2
            exact ⟨rfl, B3.out⟩
          · have t1 : decide ((8 : Int) < (k : Int)) = false := decide_eq_false (by omega)
            have t2 : decide (8 < k) = false := decide_eq_false h8
            have NEQ : Hid (n = hexN ((bl s).take k)) := Option.some.inj (hpu.symm.trans (hexN_ok _ (by rw [TKL.out]; omega) HHX.out))
            have NLT : Hid (n < 4294967296) := by
              show _ < _
              rw [NEQ.out]
              have h1 := hexN_lt ((bl s).take k) 0 0 (by decide) HHX.out
              rw [TKL.out, Nat.zero_add] at h1
              exact Nat.lt_of_lt_of_le h1 (Nat.le_trans (Nat.pow_le_pow_right (by omega) (by omega : k ≤ 8)) (by decide))
            have HS2 : Hid (R = if T ≠ [] ∧ T.head? ≠ some 59 then none else if ((bl s).all ctlB) = true then some (hexN ((bl s).take k)) else none) := by
              show _ = _
              rw [HSZ.out, if_neg (by omega)]
            clear SR hpu hn0
            cases T with
            | nil =>
              have m0 : ((sb []).toList != []) = false := by rw [Go.Lib.toList_data]; rfl
              have m1 : ((sb []).toList == []) = true := by rw [Go.Lib.toList_data]; rfl
              have HNL : Hid (R = if ((bl s).all ctlB) = true then some (hexN ((bl s).take k)) else none) := by
                show _ = _
                rw [HS2.out, if_neg (by simp)]
              have NN : Hid (n = hexN ((bl s).take k)) := NEQ.out
              have NB : Hid (n < 4294967296) := NLT.out
              clear HSZ HS2
              go_wp2_with fail
              go_loopw [50] (fun x wl => ∃ i : Nat, x = .int .i64 i ∧ i ≤ s.size ∧ Hid (∀ j (hj : j < (bl s).length), j < i → ctlB (bl s)[j] = true) ∧ wl = w3) (fun x _ => s.size - (intOf x).toNat)
              case atStart => exact ⟨0, rfl, Nat.zero_le _, fun j _ h => by omega, rfl⟩
              case round =>
                obtain ⟨i, rfl, hi, HJ, rfl⟩ := hrel
                by_cases hil : i < s.size
                · have hib : i < (bl s).length := by rw [bl_len]; exact hil
                  have IX := idx_s s i hil
                  obtain ⟨b9, hb9⟩ : ∃ z, (bl s)[i] = z := ⟨_, rfl⟩
                  have HB9 := Lib.hid hb9
                  rw [hb9] at IX
                  obtain ⟨k9, hk9⟩ : ∃ z, b9.toNat = z := ⟨_, rfl⟩
                  rw [hk9] at IX
                  have i0 : (0 : Int) ≤ (i : Int) := by omega
                  have i1 : (i : Int) < (s.size : Int) := by omega
                  by_cases hc : 9 ≤ k9 ∧ k9 ≠ 127
                  · have HJ2 : Hid (∀ j (hj : j < (bl s).length), j < i + 1 → ctlB (bl s)[j] = true) := by
                      intro j hj hlt
                      by_cases e : j = i
                      · subst e; rw [HB9.out]; unfold ctlB; rw [hk9]; exact decide_eq_true hc
                      · exact HJ.out j hj (by omega)
                    have t1 : decide ((k9 : Int) < 9) = false := decide_eq_false (by omega)
                    have t2 : decide (k9 < 9) = false := decide_eq_false (by omega)
                    have t3 : ((k9 : Int) == 127) = false := beq_eq_false_iff_ne.2 (by omega)
                    have t4 : (k9 == 127) = false := beq_eq_false_iff_ne.2 hc.2
                    clear hb9 hk9 hc
                    go_wp2_with fail
                    go_roundw
                    case rel => exact ⟨i + 1, by go_num, by omega, HJ2.out, by first | rfl | trivial⟩
                    case measure => simp [intOf]; omega
                  · have hr : none = R := by
                      rw [HNL.out, if_neg]
                      intro ha
                      have := List.all_eq_true.1 ha (bl s)[i] (List.getElem_mem hib)
                      rw [HB9.out] at this
                      unfold ctlB at this
                      rw [hk9] at this
                      exact hc (of_decide_eq_true this)
                    subst hr
                    by_cases h9 : k9 < 9
                    · have t1 : decide ((k9 : Int) < 9) = true := decide_eq_true (by omega)
                      have t2 : decide (k9 < 9) = true := decide_eq_true h9
                      clear hb9 hk9 hc HNL
                      go_wp2_with fail
                      go_ret2
                      exact ⟨rfl, B3.out⟩
                    · have t1 : decide ((k9 : Int) < 9) = false := decide_eq_false (by omega)
                      have t2 : decide (k9 < 9) = false := decide_eq_false h9
                      have t3 : ((k9 : Int) == 127) = true := by simp; omega
                      have t4 : (k9 == 127) = true := by simp; omega
                      clear hb9 hk9 hc HNL
                      go_wp2_with fail
                      go_ret2
                      exact ⟨rfl, B3.out⟩
                · obtain rfl : i = s.size := by omega
                  have hr : some n = R := by
                    rw [HNL.out, if_pos, NN.out]
                    rw [List.all_eq_true]
                    intro x hx
                    obtain ⟨j, hj, rfl⟩ := List.getElem_of_mem hx
                    exact HJ.out j hj (by rw [← bl_len]; exact hj)
                  subst hr
                  have nb := NB.out
                  have cv : IntKind.i64.wrap (n : Int) = (n : Int) := IntWalk.i64_in _ (by omega)
                  clear HNL
                  go_wp2_with fail
                  go_ret2
                  exact ⟨rfl, B3.out⟩
            | cons hd tl =>
              have m0 : ((sb (hd :: tl)).toList == []) = false := by rw [Go.Lib.toList_data]; rfl
              have m1 : ((sb (hd :: tl)).toList != []) = true := by rw [Go.Lib.toList_data]; rfl
              have IX0 : (Instr.index 9 (.string (sb (hd :: tl))) (.int .i64 0)).run Tryd.prog w3 = .ok (.int .u8 (hd.toNat : Int)) w3 := by
                have h := idx_s (sb (hd :: tl)) 0 (by rw [sb_size]; exact Nat.succ_pos _) w3
                simp only [bl_sb, List.getElem_cons_zero] at h
                exact h
              obtain ⟨h9, hh9⟩ : ∃ z, hd.toNat = z := ⟨_, rfl⟩
              rw [hh9] at IX0
              by_cases hsemi : h9 = 59
              · have e59 : hd = 59 := UInt8.toNat_inj.1 (hh9.trans hsemi)
                have u0 : ((h9 : Int) != 59) = false := by simp [hsemi]
                have u1 : (h9 != 59) = false := by simp [hsemi]
                have HS3 : Hid (R = if ((bl s).all ctlB) = true then some (hexN ((bl s).take k)) else none) := by
                  show _ = _
                  rw [HS2.out, if_neg]
                  rintro ⟨-, h⟩
                  exact h (by rw [e59]; rfl)
                clear hh9 hsemi e59 HS2
                have HNL : Hid (R = if ((bl s).all ctlB) = true then some (hexN ((bl s).take k)) else none) := HS3.out
                have NN : Hid (n = hexN ((bl s).take k)) := NEQ.out
                have NB : Hid (n < 4294967296) := NLT.out
                clear HSZ
                go_wp2_with fail
                go_loopw [50] (fun x wl => ∃ i : Nat, x = .int .i64 i ∧ i ≤ s.size ∧ Hid (∀ j (hj : j < (bl s).length), j < i → ctlB (bl s)[j] = true) ∧ wl = w3) (fun x _ => s.size - (intOf x).toNat)
                case atStart => exact ⟨0, rfl, Nat.zero_le _, fun j _ h => by omega, rfl⟩
                case round =>
                  obtain ⟨i, rfl, hi, HJ, rfl⟩ := hrel
                  by_cases hil : i < s.size
                  · have hib : i < (bl s).length := by rw [bl_len]; exact hil
                    have IX := idx_s s i hil
                    obtain ⟨b9, hb9⟩ : ∃ z, (bl s)[i] = z := ⟨_, rfl⟩
                    have HB9 := Lib.hid hb9
                    rw [hb9] at IX
                    obtain ⟨k9, hk9⟩ : ∃ z, b9.toNat = z := ⟨_, rfl⟩
                    rw [hk9] at IX
                    have i0 : (0 : Int) ≤ (i : Int) := by omega
                    have i1 : (i : Int) < (s.size : Int) := by omega
                    by_cases hc : 9 ≤ k9 ∧ k9 ≠ 127
                    · have HJ2 : Hid (∀ j (hj : j < (bl s).length), j < i + 1 → ctlB (bl s)[j] = true) := by
                        intro j hj hlt
                        by_cases e : j = i
                        · subst e; rw [HB9.out]; unfold ctlB; rw [hk9]; exact decide_eq_true hc
                        · exact HJ.out j hj (by omega)
                      have t1 : decide ((k9 : Int) < 9) = false := decide_eq_false (by omega)
                      have t2 : decide (k9 < 9) = false := decide_eq_false (by omega)
                      have t3 : ((k9 : Int) == 127) = false := beq_eq_false_iff_ne.2 (by omega)
                      have t4 : (k9 == 127) = false := beq_eq_false_iff_ne.2 hc.2
                      clear hb9 hk9 hc
                      go_wp2_with fail
                      go_roundw
                      case rel => exact ⟨i + 1, by go_num, by omega, HJ2.out, by first | rfl | trivial⟩
                      case measure => simp [intOf]; omega
                    · have hr : none = R := by
                        rw [HNL.out, if_neg]
                        intro ha
                        have := List.all_eq_true.1 ha (bl s)[i] (List.getElem_mem hib)
                        rw [HB9.out] at this
                        unfold ctlB at this
                        rw [hk9] at this
                        exact hc (of_decide_eq_true this)
                      subst hr
                      by_cases h9 : k9 < 9
                      · have t1 : decide ((k9 : Int) < 9) = true := decide_eq_true (by omega)
                        have t2 : decide (k9 < 9) = true := decide_eq_true h9
                        clear hb9 hk9 hc HNL
                        go_wp2_with fail
                        go_ret2
                        exact ⟨rfl, B3.out⟩
                      · have t1 : decide ((k9 : Int) < 9) = false := decide_eq_false (by omega)
                        have t2 : decide (k9 < 9) = false := decide_eq_false h9
                        have t3 : ((k9 : Int) == 127) = true := by simp; omega
                        have t4 : (k9 == 127) = true := by simp; omega
                        clear hb9 hk9 hc HNL
                        go_wp2_with fail
                        go_ret2
                        exact ⟨rfl, B3.out⟩
                  · obtain rfl : i = s.size := by omega
                    have hr : some n = R := by
                      rw [HNL.out, if_pos, NN.out]
                      rw [List.all_eq_true]
                      intro x hx
                      obtain ⟨j, hj, rfl⟩ := List.getElem_of_mem hx
                      exact HJ.out j hj (by rw [← bl_len]; exact hj)
                    subst hr
                    have nb := NB.out
                    have cv : IntKind.i64.wrap (n : Int) = (n : Int) := IntWalk.i64_in _ (by omega)
                    clear HNL
                    go_wp2_with fail
                    go_ret2
                    exact ⟨rfl, B3.out⟩
              · have u0 : ((h9 : Int) != 59) = true := by simp; omega
                have u1 : (h9 != 59) = true := by simpa using hsemi
                have hr : none = R := by
                  rw [HS2.out, if_pos]
                  refine ⟨by simp, fun h => hsemi ?_⟩
                  have := Option.some.inj h
                  rw [← hh9, this]; rfl
                subst hr
                clear HSZ HS2 hh9 hsemi
                go_wp2_with fail
                go_ret2
                exact ⟨rfl, B3.out⟩
        · have hr : none = R := by
            rw [HSZ.out, if_pos]
            rcases hbad with h | h
            · exact .inl (by have := TKL.out; rw [h] at this; exact this.symm)
            · by_cases h8 : 8 < k
              · exact .inr h8
              · rw [hexN_ok _ (by rw [TKL.out]; omega) HHX.out] at h
                cases h
          subst hr
          clear HSZ SR hbad
          go_wp2_with fail
          go_ret2
          exact ⟨rfl, B3.out⟩
#print axioms size_calls
end Go.Proofs.YtibhnkkfaochhaaDoor.Dec
