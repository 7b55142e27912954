/-
  FramingReads: the document's Value and Parse.
-/
import Derived.Test.YtibhnkkfaochhaaDoorRDec1
namespace Go.Proofs.YtibhnkkfaochhaaDoor.Dec
open Go.RowKit Go.Sep
open Go.Proofs.YtibhnkkfaochhaaDoor.Tok
set_option maxRecDepth 100000
set_option linter.unusedVariables false
set_option linter.unusedSimpArgs false

theorem trim_head {b : UInt8} {r : List UInt8} (h : trimL (b :: r) = b :: r) : ¬ blkB b = true := by
  intro hb
  have h1 : trimL (b :: r) = trimL r := by rw [trimL_eq, ltrB_pos hb, ← trimL_eq]
  have := trimL_le r
  rw [← h1, h] at this
  simp at this
  omega
theorem trim_last {b : UInt8} {r : List UInt8} (h : trimL (r ++ [b]) = r ++ [b]) : ¬ blkB b = true := by
  intro hb
  have h1 : trimL (r ++ [b]) = trimL r := by rw [trimL_eq, ← ltr_rtr, rtrB_pos _ hb, ltr_rtr, ← trimL_eq]
  have := trimL_le r
  rw [← h1, h] at this
  simp at this
  omega
theorem tw_at (p : UInt8 → Bool) : ∀ (l : List UInt8) (k : Nat) (h : k < l.length), k ≤ (l.takeWhile p).length → p l[k] = decide (k < (l.takeWhile p).length)
  | [], k, h, _ => by simp at h
  | b :: l, 0, _, _ => by
    by_cases hb : p b = true
    · rw [List.takeWhile_cons_of_pos hb]; simp [hb]
    · rw [List.takeWhile_cons_of_neg hb]; simpa using hb
  | b :: l, k + 1, h, hk => by
    by_cases hb : p b = true
    · rw [List.takeWhile_cons_of_pos hb] at hk ⊢
      simp only [List.length_cons, Nat.add_le_add_iff_right, Nat.add_lt_add_iff_right, List.getElem_cons_succ] at hk ⊢
      exact tw_at p l k (by simpa using h) hk
    · rw [List.takeWhile_cons_of_neg hb] at hk; simp at hk
theorem valK_blk {k : Nat} (h : blkK k = true) : valK k = true := by
  unfold blkK at h; unfold valK
  have h2 : k = 32 ∨ k = 9 := by simpa using h
  exact decide_eq_true (by omega)
theorem valK_no {k : Nat} (h : blkK k = false) : valK k = decide (33 ≤ k ∧ k ≠ 127) := by
  unfold blkK at h; unfold valK
  have h2 : k ≠ 32 ∧ k ≠ 9 := by simpa using h
  by_cases h3 : 33 ≤ k ∧ k ≠ 127
  · rw [decide_eq_true h3]; exact decide_eq_true (by omega)
  · rw [decide_eq_false h3]; exact decide_eq_false (by omega)
set_option maxHeartbeats 4000000 in
theorem rvalue_calls (s : ByteArray) (hs : s.size ≤ 1048576) (ht : trimL (bl s) = bl s) (w : World) : Calls Tryd.prog 40 #[.string s] w fun e w' => e = .returned (.bool (valB (bl s))) ∧ Below w.heap.size w w' := by
  have BC := Lib.hid (fun k wq => rblank_calls k wq)
  have HT := Lib.hid ht
  have hv : ((bl s).all fun b => valK b.toNat) = valB (bl s) := rfl
  obtain ⟨rs, hrs⟩ : ∃ q, valB (bl s) = q := ⟨_, rfl⟩
  rw [hrs] at hv ⊢
  have HRS := Lib.hid hv
  clear hrs hv ht
  go_enter Tryd.func40, Tryd.ntmps40
  go_wp2_with fail
  go_loopw [3] (fun x wl => ∃ i : Nat, i ≤ s.size ∧ x = .int .i64 i ∧ Hid (∀ j (hj : j < (bl s).length), j < i → valK (bl s)[j].toNat = true) ∧ Hid (Below w.heap.size w wl)) (fun x _ => s.size - (intOf x).toNat)
  case atStart => exact ⟨0, Nat.zero_le _, rfl, fun j _ h => by omega, Below.refl _ _⟩
  case round =>
    obtain ⟨i, hi, rfl, HJ, HB⟩ := hrel
    by_cases hil : i < s.size
    · have hib : i < (bl s).length := by rw [bl_len]; exact hil
      have IX := idx_s s i hil
      obtain ⟨k, hk⟩ : ∃ q, (bl s)[i].toNat = q := ⟨_, rfl⟩
      have hk9 : k < 256 := by rw [← hk]; exact UInt8.toNat_lt _
      rw [hk] at IX
      have HK := Lib.hid hk
      have i0 : (0 : Int) ≤ (i : Int) := by omega
      have i1 : (i : Int) < (s.size : Int) := by omega
      have FC := Lib.hid (BC.out k wr)
      clear hk
      by_cases hp : valK k = true
      · have HN : Hid (∀ j (hj : j < (bl s).length), j < i + 1 → valK (bl s)[j].toNat = true) := by
          intro j hj hlt
          by_cases e : j = i
          · subst e; rw [HK.out]; exact hp
          · exact HJ.out j hj (by omega)
        cases hbk : blkK k with
        | true =>
          rw [hbk] at FC
          clear hp hbk
          go_wp2_with fail
          refine (FC.out).mono ?_
          rintro e w1 ⟨rfl, b1⟩
          have B1 : Hid (Below w.heap.size w w1) := HB.out.trans (b1.mono HB.out.size)
          clear b1 FC
          go_wp2_with fail
          go_roundw
          case rel => exact ⟨i + 1, by omega, by go_num, HN.out, B1.out⟩
          case measure => simp [intOf]; omega
        | false =>
          rw [hbk] at FC
          rw [valK_no hbk] at hp
          have h3 := of_decide_eq_true hp
          have t1 : decide ((k : Int) < 33) = false := decide_eq_false (by omega)
          have t1' : decide (k < 33) = false := decide_eq_false (by omega)
          have t2 : ((k : Int) == 127) = false := beq_eq_false_iff_ne.2 (by omega)
          have t2' : (k == 127) = false := beq_eq_false_iff_ne.2 h3.2
          clear hp hbk h3
          go_wp2_with fail
          refine (FC.out).mono ?_
          rintro e w1 ⟨rfl, b1⟩
          have B1 : Hid (Below w.heap.size w w1) := HB.out.trans (b1.mono HB.out.size)
          clear b1 FC
          go_wp2_with fail
          go_roundw
          case rel => exact ⟨i + 1, by omega, by go_num, HN.out, B1.out⟩
          case measure => simp [intOf]; omega
      · have hp2 : valK k = false := by simpa using hp
        have hr : rs = false := by
          rw [← HRS.out, List.all_eq_false]
          exact ⟨_, List.getElem_mem hib, by rw [HK.out]; simpa using hp2⟩
        have hbk : blkK k = false := by
          cases h : blkK k with
          | true => rw [valK_blk h] at hp2; cases hp2
          | false => rfl
        rw [hbk] at FC
        rw [valK_no hbk] at hp2
        have h3 := of_decide_eq_false hp2
        clear hp hp2 HRS hbk
        subst hr
        by_cases h33 : k < 33
        · have t1 : decide ((k : Int) < 33) = true := decide_eq_true (by omega)
          have t1' : decide (k < 33) = true := decide_eq_true h33
          clear h3
          go_wp2_with fail
          refine (FC.out).mono ?_
          rintro e w1 ⟨rfl, b1⟩
          have B1 : Hid (Below w.heap.size w w1) := HB.out.trans (b1.mono HB.out.size)
          clear b1 FC
          go_wp2_with fail
          go_ret
          exact ⟨rfl, B1.out⟩
        · have h127 : k = 127 := by omega
          have t1 : decide ((k : Int) < 33) = false := decide_eq_false (by omega)
          have t1' : decide (k < 33) = false := decide_eq_false h33
          have t2 : ((k : Int) == 127) = true := by simp [h127]
          have t2' : (k == 127) = true := by simp [h127]
          clear h3 h127
          go_wp2_with fail
          refine (FC.out).mono ?_
          rintro e w1 ⟨rfl, b1⟩
          have B1 : Hid (Below w.heap.size w w1) := HB.out.trans (b1.mono HB.out.size)
          clear b1 FC
          go_wp2_with fail
          go_ret
          exact ⟨rfl, B1.out⟩
    · obtain rfl : i = s.size := by omega
      have hr : rs = true := by
        rw [← HRS.out, List.all_eq_true]
        intro x hx
        obtain ⟨j, hj, rfl⟩ := List.getElem_of_mem hx
        exact HJ.out j hj (by rw [← bl_len]; exact hj)
      clear HRS HJ
      subst hr
      by_cases h0 : s.size = 0
      · have e0 : bl s = [] := List.eq_nil_of_length_eq_zero (by rw [bl_len]; exact h0)
        have e1 : (s.toList == []) = true := by rw [Go.Lib.toList_data]; show (bl s == []) = true; rw [e0]; rfl
        clear h0 e0 BC HT
        go_wp2_with fail
        go_ret
        exact ⟨rfl, HB.out⟩
      · have e1 : (s.toList == []) = false := by
          rw [Go.Lib.toList_data]
          show (bl s == []) = false
          refine beq_eq_false_iff_ne.2 fun h => h0 ?_
          rw [← bl_len, h]; rfl
        have hb0 : 0 < (bl s).length := by rw [bl_len]; omega
        have hbL : s.size - 1 < (bl s).length := by rw [bl_len]; omega
        have IX0 : ∀ wq, (Instr.index 9 (.string s) (.int .i64 0)).run Tryd.prog wq = .ok (.int .u8 ((bl s)[0].toNat : Int)) wq := idx_s s 0 (by omega)
        have IXL : ∀ wq, (Instr.index 9 (.string s) (.int .i64 ((s.size - 1 : Nat) : Int))).run Tryd.prog wq = .ok (.int .u8 ((bl s)[s.size - 1].toNat : Int)) wq := idx_s s (s.size - 1) (by omega)
        have n0 : blkK (bl s)[0].toNat = false := by
          have hcons : bl s = (bl s)[0] :: (bl s).drop 1 := List.drop_eq_getElem_cons hb0
          have h := HT.out
          rw [hcons] at h
          exact Bool.eq_false_iff.2 (trim_head h)
        have nL : blkK (bl s)[s.size - 1].toNat = false := by
          have hcons : bl s = (bl s).take (s.size - 1) ++ [(bl s)[s.size - 1]] := by
            rw [← List.take_succ_eq_append_getElem hbL, Nat.sub_add_cancel (by omega), ← bl_len, List.take_length]
          have h := HT.out
          rw [hcons] at h
          exact Bool.eq_false_iff.2 (trim_last h)
        have ws : IntKind.i64.wrap ((s.size : Int) - 1) = ((s.size - 1 : Nat) : Int) := by rw [IntWalk.i64_in _ (by omega)]; omega
        obtain ⟨k0, hk0⟩ : ∃ q, (bl s)[0].toNat = q := ⟨_, rfl⟩
        obtain ⟨kL, hkL⟩ : ∃ q, (bl s)[s.size - 1].toNat = q := ⟨_, rfl⟩
        rw [hk0] at IX0 n0
        rw [hkL] at IXL nL
        have F0 := Lib.hid (fun wq => BC.out k0 wq)
        have FL := Lib.hid (fun wq => BC.out kL wq)
        rw [n0] at F0
        rw [nL] at FL
        have i0 : (0 : Int) < (s.size : Int) := by omega
        have i1 : (0 : Int) ≤ ((s.size - 1 : Nat) : Int) := by omega
        have i2 : ((s.size - 1 : Nat) : Int) < (s.size : Int) := by omega
        obtain ⟨m, hm⟩ : ∃ q, s.size - 1 = q := ⟨_, rfl⟩
        rw [hm] at ws IXL i1 i2
        clear BC n0 nL hk0 hkL h0 hb0 hbL HT hm
        go_wp2_with fail
        refine (F0.out _).mono ?_
        rintro e w1 ⟨rfl, b1⟩
        have B1 : Hid (Below w.heap.size w w1) := HB.out.trans (b1.mono HB.out.size)
        clear b1 F0 HB
        go_wp2_with fail
        refine (FL.out _).mono ?_
        rintro e w2 ⟨rfl, b2⟩
        have B2 : Hid (Below w.heap.size w w2) := B1.out.trans (b2.mono B1.out.size)
        clear b2 FL B1
        go_wp2_with fail
        go_ret
        exact ⟨rfl, B2.out⟩
#print axioms rvalue_calls
def ParC (r : Bool) (w : World) (e : Ending) (w' : World) : Prop := (∃ v, e = .returned (.tuple #[v, .int .i64 (if r = true then 0 else 31)]) ∧ ∃ a b, v = .agg #[.string a, .string b]) ∧ Below w.heap.size w w'
theorem fld_row {w w1 : World} (b1 : Below (w.alloc (.cells #[.string ⟨#[]⟩, .string ⟨#[]⟩] 61)).heap.size (w.alloc (.cells #[.string ⟨#[]⟩, .string ⟨#[]⟩] 61)) w1) : Below w.heap.size w w1 ∧ w1.heap[w.heap.size]? = some (.cells #[.string ⟨#[]⟩, .string ⟨#[]⟩] 61 (0, 0)) := by
  have B0 : Below w.heap.size w (w.alloc (.cells #[.string ⟨#[]⟩, .string ⟨#[]⟩] 61)) := (Below.refl _ w).alloc (Nat.le_refl _) _
  exact ⟨B0.trans (b1.mono B0.size), (b1.block w.heap.size (by simp)).trans (MapKept.heap_alloc w _).1⟩
theorem fld_fin {w w1 : World} (B : Below w.heap.size w w1) (a b : ByteArray) : Below w.heap.size w ((w1.setCell ⟨w.heap.size, 0, none⟩ (.string a)).setCell ⟨w.heap.size, 1, none⟩ (.string b)) := below_set (below_set B (Nat.le_refl _)) (Nat.le_refl _)
set_option maxHeartbeats 4000000 in
theorem rparse_calls (s : ByteArray) (hs : s.size ≤ 1048576) (w : World) : Calls Tryd.prog 29 #[.string s] w (ParC (parseL (bl s)) w) := by
  have hKle : colK (bl s) ≤ s.size := by have := (List.takeWhile_sublist (fun c : UInt8 => c != 58) (l := bl s)).length_le; rw [bl_len] at this; exact this
  have HAT : Hid (∀ k (h : k < (bl s).length), k ≤ colK (bl s) → ((bl s)[k] != 58) = decide (k < colK (bl s))) := tw_at (fun c : UInt8 => c != 58) (bl s)
  have HP : Hid (parseL (bl s) = (decide (colK (bl s) < s.size) && (isL ((bl s).take (colK (bl s))) && valB (trimL ((bl s).drop (colK (bl s) + 1)))))) := by show _ = _; rw [← bl_len]; rfl
  obtain ⟨R, hR⟩ : ∃ q, parseL (bl s) = q := ⟨_, rfl⟩
  rw [hR] at HP ⊢
  obtain ⟨K, hK⟩ : ∃ q, colK (bl s) = q := ⟨_, rfl⟩
  rw [hK] at HP hKle HAT
  clear hR hK
  go_enter Tryd.func29, Tryd.ntmps29
  go_wp2_with fail
  go_loopw [4] (fun x wl => ∃ k : Nat, x = .int .i64 k ∧ k ≤ K ∧ wl = w.alloc (.cells #[.string ⟨#[]⟩, .string ⟨#[]⟩] 61)) (fun x _ => s.size - (intOf x).toNat)
  case atStart => exact ⟨0, rfl, Nat.zero_le _, rfl⟩
  case round =>
    obtain ⟨k, rfl, hk, rfl⟩ := hrel
    by_cases hkK : k < K
    · have hks : k < s.size := by omega
      have hkb : k < (bl s).length := by rw [bl_len]; exact hks
      have IX := idx_s s k hks
      have hx := HAT.out k hkb hk
      rw [decide_eq_true hkK] at hx
      obtain ⟨b, hb⟩ : ∃ z, (bl s)[k] = z := ⟨_, rfl⟩
      rw [hb] at IX hx
      have hbn : b.toNat ≠ 58 := fun h => by
        have : b = 58 := UInt8.toNat_inj.1 h
        rw [this] at hx; simp at hx
      obtain ⟨q, hq⟩ : ∃ z, b.toNat = z := ⟨_, rfl⟩
      rw [hq] at IX hbn
      have i0 : (0 : Int) ≤ (k : Int) := by omega
      have i1 : (k : Int) < (s.size : Int) := by omega
      have t1 : ((q : Int) != 58) = true := by simp; omega
      have t1' : (q != 58) = true := by simpa using hbn
      clear hx hb hq hbn
      go_wp2_with fail
      go_roundw
      case rel => exact ⟨k + 1, by go_num, by omega, by first | rfl | trivial⟩
      case measure => simp [intOf]; omega
    · obtain rfl : k = K := by omega
      have W0 := fld_row (w := w) (Below.refl _ _)
      by_cases hks : k < s.size
      · have hkb : k < (bl s).length := by rw [bl_len]; exact hks
        have IX := idx_s s k hks
        have hx := HAT.out k hkb (Nat.le_refl _)
        rw [decide_eq_false (Nat.lt_irrefl _)] at hx
        obtain ⟨b, hb⟩ : ∃ z, (bl s)[k] = z := ⟨_, rfl⟩
        rw [hb] at IX hx
        have hbn : b.toNat = 58 := by
          have : b = 58 := by simpa using hx
          rw [this]; rfl
        rw [hbn] at IX
        have x1 := ext_take s k (by omega)
        have x2 := ext_drop s (k + 1)
        have hp : R = (isL ((bl s).take k) && valB (trimL ((bl s).drop (k + 1)))) := by have h := HP.out; rw [decide_eq_true hks, Bool.true_and] at h; exact h
        have IC := Lib.hid (fun wq => ris_calls (sb ((bl s).take k)) (by rw [sb_size, List.length_take, bl_len]; omega) wq)
        have TC := Lib.hid (fun wq => rtrim_calls (sb ((bl s).drop (k + 1))) (by rw [sb_size, List.length_drop, bl_len]; omega) wq)
        have VC := Lib.hid (fun wq => rvalue_calls (sb (trimL ((bl s).drop (k + 1)))) (by rw [sb_size]; exact Nat.le_trans (trimL_le _) (by rw [List.length_drop, bl_len]; omega)) (by rw [bl_sb]; exact trim_idem _) wq)
        rw [bl_sb] at IC TC VC
        obtain ⟨r1, hr1⟩ : ∃ q, isL ((bl s).take k) = q := ⟨_, rfl⟩
        obtain ⟨r2, hr2⟩ : ∃ q, valB (trimL ((bl s).drop (k + 1))) = q := ⟨_, rfl⟩
        rw [hr1] at IC hp
        rw [hr2] at VC hp
        obtain ⟨N, hN⟩ : ∃ q, sb ((bl s).take k) = q := ⟨_, rfl⟩
        obtain ⟨D, hD⟩ : ∃ q, sb ((bl s).drop (k + 1)) = q := ⟨_, rfl⟩
        obtain ⟨T, hT⟩ : ∃ q, sb (trimL ((bl s).drop (k + 1))) = q := ⟨_, rfl⟩
        rw [hN] at x1 IC
        rw [hD] at x2 TC
        rw [hT] at TC VC
        have i0 : (0 : Int) ≤ (k : Int) := by omega
        have i1 : (k : Int) < (s.size : Int) := by omega
        have i2 : (k : Int) ≤ (s.size : Int) := by omega
        have i3 : (k : Int) + 1 ≤ (s.size : Int) := by omega
        have a1 : IntKind.i64.wrap ((k : Int) + 1) = (k : Int) + 1 := IntWalk.i64_in _ (by omega)
        have t3 : ((k : Int) == (s.size : Int)) = false := beq_eq_false_iff_ne.2 (by omega)
        have t3' : (k == s.size) = false := beq_eq_false_iff_ne.2 (by omega)
        clear hx hb hbn hr1 hr2 hN hD hT HP HAT
        go_wp2_with fail
        refine (IC.out _).mono ?_
        rintro e w1 ⟨rfl, b1⟩
        have W1 := Lib.hid (fld_row b1)
        clear b1 IC W0
        cases r1 with
        | false =>
          have hr : R = false := hp
          subst hr
          obtain ⟨y, yf⟩ := blk_facts W1.out.2
          have y0 := y 0
          have y1 := y 1
          simp at y0 y1
          clear y TC VC hp
          go_wp2_with fail
          exact bodyPost_ret (v := .tuple #[.agg #[.string ⟨#[]⟩, .string ⟨#[]⟩], .int .i64 31]) (by simp [results, Tryd.results29, go_sem, y0, y1]) rfl ⟨⟨_, rfl, _, _, rfl⟩, fld_fin W1.out.1 _ _⟩
        | true =>
          have hr : R = r2 := by rw [hp, Bool.true_and]
          clear hp
          subst hr
          go_wp2_with fail
          refine (TC.out _).mono ?_
          rintro e w2 ⟨rfl, b2⟩
          have W2 : Hid (Below w.heap.size w w2 ∧ w2.heap[w.heap.size]? = some (.cells #[.string ⟨#[]⟩, .string ⟨#[]⟩] 61 (0, 0))) := ⟨W1.out.1.trans (b2.mono W1.out.1.size), (b2.block w.heap.size (Array.getElem?_eq_some_iff.1 W1.out.2).1).trans W1.out.2⟩
          clear b2 TC W1
          go_wp2_with fail
          refine (VC.out _).mono ?_
          rintro e w3 ⟨rfl, b3⟩
          have W3 : Hid (Below w.heap.size w w3 ∧ w3.heap[w.heap.size]? = some (.cells #[.string ⟨#[]⟩, .string ⟨#[]⟩] 61 (0, 0))) := ⟨W2.out.1.trans (b3.mono W2.out.1.size), (b3.block w.heap.size (Array.getElem?_eq_some_iff.1 W2.out.2).1).trans W2.out.2⟩
          obtain ⟨y, yf⟩ := blk_facts W3.out.2
          have y0 := y 0
          have y1 := y 1
          simp at y0 y1
          clear b3 VC W2 y
          cases R with
          | false =>
            go_wp2_with fail
            exact bodyPost_ret (v := .tuple #[.agg #[.string ⟨#[]⟩, .string ⟨#[]⟩], .int .i64 31]) (by simp [results, Tryd.results29, go_sem, y0, y1]) rfl ⟨⟨_, rfl, _, _, rfl⟩, fld_fin W3.out.1 _ _⟩
          | true =>
            go_wp2_with fail
            exact bodyPost_ret (v := .tuple #[.agg #[.string N, .string T], .int .i64 0]) (by simp [results, Tryd.results29, go_sem, y0, y1]) rfl ⟨⟨_, rfl, _, _, rfl⟩, fld_fin W3.out.1 _ _⟩
      · obtain rfl : k = s.size := by omega
        have hp : R = false := by have h := HP.out; rw [decide_eq_false (Nat.lt_irrefl _), Bool.false_and] at h; exact h
        subst hp
        have t3 : ((s.size : Int) == (s.size : Int)) = true := by simp
        have t3' : (s.size == s.size) = true := by simp
        have W1 := Lib.hid W0
        obtain ⟨y, yf⟩ := blk_facts W1.out.2
        have y0 := y 0
        have y1 := y 1
        simp only [List.getElem?_toArray, List.getElem?_cons_zero, List.getElem?_cons_succ] at y0 y1
        clear W0 y HP HAT
        go_wp2_with fail
        exact bodyPost_ret (v := .tuple #[.agg #[.string ⟨#[]⟩, .string ⟨#[]⟩], .int .i64 31]) (by simp [results, Tryd.results29, go_sem, y0, y1]) rfl ⟨⟨_, rfl, _, _, rfl⟩, W1.out.1⟩
#print axioms rparse_calls
end Go.Proofs.YtibhnkkfaochhaaDoor.Dec
