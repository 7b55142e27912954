/-
  The document's layer 1: Lower, Same, blank, Trim.
-/
import Derived.Test.YtibhnkkfaochhaaDoorTok2
import Derived.Deep.DeepCutAuto
import Derived.Deep.CutBlock
namespace Go.Proofs.YtibhnkkfaochhaaDoor.Tok
open Go.RowKit Go.Sep
set_option maxRecDepth 100000
set_option linter.unusedVariables false
set_option linter.unusedSimpArgs false

theorem sb_app' (l k : List UInt8) : sb l ++ sb k = sb (l ++ k) := by
  apply ByteArray.ext
  simp [sb, ByteArray.data_append]
theorem one_conv (wr : World) (x : UInt8) : (convert 22 9 (.slice (some ⟨wr.heap.size, 0, none⟩) 1 1)).run Tryd.prog (wr.alloc (.cells #[.int .u8 (x.toNat : Int)] 5)) = .ok (.string (sb [x])) (wr.alloc (.cells #[.int .u8 (x.toNat : Int)] 5)) :=
  run_convert_bytes_back _ 22 9 5 ⟨wr.heap.size, 0, none⟩ 1 [x] Tryd.underlying22 Tryd.underlying5 Tryd.underlying9 (fun j hj => by
    rw [Addr.add_lit, Nat.zero_add, World.cell?_alloc_new]
    have : j = 0 := by simp at hj; omega
    subst this
    rfl)
def blkK (k : Nat) : Bool := decide (k = 32) || decide (k = 9)
theorem rblank_calls (k : Nat) (w : World) : Calls Tryd.prog 53 #[.int .u8 (k : Int)] w fun e w' => e = .returned (.bool (blkK k)) ∧ Below w.heap.size w w' := by
  unfold blkK
  by_cases h1 : k = 32
  · subst h1
    go_enter Tryd.func53, Tryd.ntmps53
    go_wp2_with fail
    go_ret
    exact ⟨rfl, Below.refl _ _⟩
  · have e1 : ((k : Int) == 32) = false := beq_eq_false_iff_ne.2 (by omega)
    have e1n : (k == 32) = false := by simpa using h1
    by_cases h2 : k = 9
    · subst h2
      clear h1
      go_enter Tryd.func53, Tryd.ntmps53
      go_wp2_with fail
      go_ret
      exact ⟨rfl, Below.refl _ _⟩
    · have e2 : ((k : Int) == 9) = false := beq_eq_false_iff_ne.2 (by omega)
      have e2n : (k == 9) = false := by simpa using h2
      have e : (decide (k = 32) || decide (k = 9)) = false := by simp [h1, h2]
      rw [e]
      clear e h1 h2
      go_enter Tryd.func53, Tryd.ntmps53
      go_wp2_with fail
      go_ret
      exact ⟨rfl, Below.refl _ _⟩
#print axioms rblank_calls
def blkB (b : UInt8) : Bool := blkK b.toNat
def ltrB (l : List UInt8) : List UInt8 := l.dropWhile blkB
def rtrB (l : List UInt8) : List UInt8 := (l.reverse.dropWhile blkB).reverse
theorem blk_eq (b : UInt8) : [32, 9].contains b = blkB b := by
  have : ∀ k : Fin 256, [32, 9].contains (UInt8.ofNat k.val) = blkK k.val := by decide +kernel
  have h := this ⟨b.toNat, b.toNat_lt⟩
  have e : UInt8.ofNat b.toNat = b := by simp
  simp only [e] at h
  exact h
theorem ltrB_pos {b : UInt8} (h : blkB b = true) (r : List UInt8) : ltrB (b :: r) = ltrB r := by unfold ltrB; rw [List.dropWhile_cons_of_pos h]
theorem ltrB_neg {b : UInt8} (h : ¬ blkB b = true) (r : List UInt8) : ltrB (b :: r) = b :: r := by unfold ltrB; rw [List.dropWhile_cons_of_neg h]
theorem rtrB_cons (b : UInt8) (r : List UInt8) : rtrB (b :: r) = if rtrB r = [] then (if blkB b = true then [] else [b]) else b :: rtrB r := by
  unfold rtrB
  rw [List.reverse_cons, List.dropWhile_append]
  cases hh : r.reverse.dropWhile blkB with
  | nil =>
    rw [if_pos (show ([] : List UInt8).isEmpty = true from rfl), if_pos (show ([] : List UInt8).reverse = [] from rfl)]
    by_cases hb : blkB b = true
    · rw [List.dropWhile_cons_of_pos hb, if_pos hb]; rfl
    · rw [List.dropWhile_cons_of_neg hb, if_neg hb]; rfl
  | cons x y => rw [if_neg (by simp), if_neg (by simp)]; simp
theorem ltr_rtr : ∀ l : List UInt8, ltrB (rtrB l) = rtrB (ltrB l)
  | [] => rfl
  | b :: r => by
    have IH := ltr_rtr r
    by_cases hb : blkB b = true
    · rw [ltrB_pos hb, ← IH, rtrB_cons]
      by_cases h : rtrB r = []
      · rw [if_pos h, if_pos hb, h]
      · rw [if_neg h, ltrB_pos hb]
    · rw [ltrB_neg hb, rtrB_cons]
      by_cases h : rtrB r = []
      · rw [if_pos h, if_neg hb, ltrB_neg hb]
      · rw [if_neg h, ltrB_neg hb]
theorem trimL_eq (l : List UInt8) : trimL l = rtrB (ltrB l) := by
  rw [← ltr_rtr]
  unfold trimL Go.Lib.trimS Go.Lib.trimLeftS Go.Lib.trimRightS ltrB rtrB
  have e : (fun b => [32, 9].contains b) = blkB := funext blk_eq
  rw [e]
theorem rtrB_pos (r : List UInt8) {b : UInt8} (h : blkB b = true) : rtrB (r ++ [b]) = rtrB r := by
  unfold rtrB
  rw [List.reverse_append]
  show ((b :: r.reverse).dropWhile _).reverse = _
  rw [List.dropWhile_cons_of_pos h]
theorem rtrB_neg (r : List UInt8) {b : UInt8} (h : ¬ blkB b = true) : rtrB (r ++ [b]) = r ++ [b] := by
  unfold rtrB
  rw [List.reverse_append]
  show ((b :: r.reverse).dropWhile _).reverse = _
  rw [List.dropWhile_cons_of_neg h]
  simp
theorem bl_ext' (s : ByteArray) (a b : Nat) : bl (s.extract a b) = ((bl s).drop a).take (b - a) := by
  simp [bl, ByteArray.data_extract, Array.toList_extract, List.extract_eq_take_drop]
theorem bl_inj {a b : ByteArray} (h : bl a = bl b) : a = b := by rw [← sb_bl a, h, sb_bl]
def Trim2 (w : World) (res : List UInt8) (x : Value) (wl : World) : Prop := ∃ t : ByteArray, x = .string t ∧ t.size ≤ 1048576 ∧ rtrB (bl t) = res ∧ Below w.heap.size w wl
set_option maxHeartbeats 2000000 in
theorem rtrim_calls (s : ByteArray) (hs : s.size ≤ 1048576) (w : World) : Calls Tryd.prog 38 #[.string s] w fun e w' => e = .returned (.string (sb (trimL (bl s)))) ∧ Below w.heap.size w w' := by
  obtain ⟨res, hres⟩ : ∃ q, trimL (bl s) = q := ⟨_, rfl⟩
  have HR : Hid (rtrB (ltrB (bl s)) = res) := by show _ = _; rw [← trimL_eq, hres]
  rw [hres]
  clear hres
  have BC := Lib.hid (fun k w => rblank_calls k w)
  go_enter Tryd.func38, Tryd.ntmps38
  go_wp2_with fail
  go_loopw [0] (fun x wl => ∃ t : ByteArray, x = .string t ∧ t.size ≤ 1048576 ∧ Hid (rtrB (ltrB (bl t)) = res) ∧ Hid (Below w.heap.size w wl)) (fun x _ => match x with | .string t => t.size | _ => 0)
  case atStart => exact ⟨s, rfl, hs, HR.out, Below.refl _ _⟩
  case round =>
    obtain ⟨t, rfl, ht, HX, HB⟩ := hrel
    by_cases h0 : 0 < t.size
    · have hib : 0 < (bl t).length := by rw [bl_len]; exact h0
      have IX : ∀ w, (Instr.index 9 (.string t) (.int .i64 0)).run Tryd.prog w = .ok (.int .u8 ((bl t)[0].toNat : Int)) w := idx_s t 0 h0
      have i0 : (0 : Int) < (t.size : Int) := by omega
      have i1 : (1 : Int) ≤ (t.size : Int) := by omega
      have g0 : decide ((0 : Int) < (t.size : Int)) = true := by simp; omega
      have g1 : decide (0 < t.size) = true := by simpa using h0
      have hcons : bl t = (bl t)[0] :: (bl t).drop 1 := (List.drop_eq_getElem_cons hib)
      obtain ⟨b, hb⟩ : ∃ q, (bl t)[0] = q := ⟨_, rfl⟩
      rw [hb] at IX hcons
      obtain ⟨k, hk⟩ : ∃ q, b.toNat = q := ⟨_, rfl⟩
      rw [hk] at IX
      have FC := Lib.hid (BC.out k wr)
      by_cases hp : blkK k = true
      · have ED : Hid (rtrB (ltrB (bl (t.extract 1 t.size))) = res) := by
          show _ = _
          rw [bl_ext', List.take_of_length_le (by rw [List.length_drop, bl_len]; exact Nat.le_refl _), ← HX.out]
          conv => rhs; rw [hcons]
          rw [ltrB_pos (show blkK b.toNat = true by rw [hk]; exact hp)]
        have sz : (t.extract 1 t.size).size = t.size - 1 := by rw [ByteArray.size_extract]; omega
        rw [hp] at FC
        clear hb hk hcons hp
        go_wp2_with fail
        refine (FC.out).mono ?_
        rintro e w1 ⟨rfl, b1⟩
        have B1 : Hid (Below w.heap.size w w1) := HB.out.trans (b1.mono HB.out.size)
        clear b1 FC
        go_wp2_with fail
        go_roundw
        case rel => exact ⟨_, rfl, by omega, ED.out, B1.out⟩
        case measure => show (t.extract 1 t.size).size < t.size; omega
      · have ED : Hid (rtrB (bl t) = res) := by
          have h := HX.out
          rw [hcons, ltrB_neg (by show ¬ blkK b.toNat = true; rw [hk]; exact hp), ← hcons] at h
          exact h
        have hp2 : blkK k = false := by simpa using hp
        rw [hp2] at FC
        clear hb hk hcons hp hp2 HX HR
        go_wp2_with fail
        refine (FC.out).mono ?_
        rintro e w1 ⟨rfl, b1⟩
        have R2 : Hid (Trim2 w res (.string t) w1) := ⟨t, rfl, ht, ED.out, HB.out.trans (b1.mono HB.out.size)⟩
        clear b1 FC HB IX i0 i1 g0 g1 h0 hib ht hs ED
        go_wp2_with fail
        go_loopw [0] (fun x wl => Hid (Trim2 w res x wl)) (fun x _ => match x with | .string t => t.size | _ => 0)
        case atStart => exact R2
        case round =>
          obtain ⟨t, rfl, ht', hX', hB'⟩ := hrel.out
          have HX := Lib.hid hX'
          have HB := Lib.hid hB'
          clear hX' hB' hrel R2
          by_cases h0 : 0 < t.size
          · have hib : t.size - 1 < (bl t).length := by rw [bl_len]; omega
            have IX : ∀ w, (Instr.index 9 (.string t) (.int .i64 ((t.size - 1 : Nat) : Int))).run Tryd.prog w = .ok (.int .u8 ((bl t)[t.size - 1].toNat : Int)) w := idx_s t (t.size - 1) (by omega)
            have ws : IntKind.i64.wrap ((t.size : Int) - 1) = ((t.size - 1 : Nat) : Int) := by rw [IntWalk.i64_in _ (by omega)]; omega
            have i1 : ((t.size - 1 : Nat) : Int) ≤ (t.size : Int) := by omega
            have i2 : ((t.size - 1 : Nat) : Int) < (t.size : Int) := by omega
            have g0 : decide ((0 : Int) < (t.size : Int)) = true := by simp; omega
            have g1 : decide (0 < t.size) = true := by simpa using h0
            have hcons : bl t = (bl t).take (t.size - 1) ++ [(bl t)[t.size - 1]] := by
              rw [← List.take_succ_eq_append_getElem hib, Nat.sub_add_cancel h0, ← bl_len, List.take_length]
            obtain ⟨b, hb⟩ : ∃ q, (bl t)[t.size - 1] = q := ⟨_, rfl⟩
            rw [hb] at IX hcons
            obtain ⟨k, hk⟩ : ∃ q, b.toNat = q := ⟨_, rfl⟩
            rw [hk] at IX
            have FC := Lib.hid (BC.out k wr)
            by_cases hp : blkK k = true
            · have ED : Hid (rtrB (bl (t.extract 0 (t.size - 1))) = res) := by
                show _ = _
                rw [bl_ext', ← HX.out]
                conv => rhs; rw [hcons]
                rw [rtrB_pos _ (show blkK b.toNat = true by rw [hk]; exact hp)]
                simp
              have sz : (t.extract 0 (t.size - 1)).size = t.size - 1 := by rw [ByteArray.size_extract]; omega
              rw [hp] at FC
              have ht := Lib.hid ht'
              have hpos : Hid (t.size - 1 < t.size) := by show _ < _; omega
              obtain ⟨m, hm⟩ : ∃ q, t.size - 1 = q := ⟨_, rfl⟩
              rw [hm] at ED sz hpos IX ws i1 i2
              have hm2 : Hid (m ≤ 1048576) := by show _ ≤ _; omega
              clear hb hk hcons hp HX hm hib ht'
              go_wp2_with fail
              refine (FC.out).mono ?_
              rintro e w1 ⟨rfl, b1⟩
              have B1 : Hid (Below w.heap.size w w1) := HB.out.trans (b1.mono HB.out.size)
              clear b1 FC
              go_wp2_with fail
              go_roundw
              case rel => exact ⟨_, rfl, by rw [sz]; exact hm2.out, ED.out, B1.out⟩
              case measure => show (t.extract 0 m).size < t.size; rw [sz]; exact hpos.out
            · have ED : Hid (bl t = res) := by
                have h := HX.out
                rw [hcons, rtrB_neg _ (by show ¬ blkK b.toNat = true; rw [hk]; exact hp), ← hcons] at h
                exact h
              have hp2 : blkK k = false := by simpa using hp
              rw [hp2] at FC
              clear hb hk hcons hp hp2 HX
              go_wp2_with fail
              refine (FC.out).mono ?_
              rintro e w1 ⟨rfl, b1⟩
              have B1 : Hid (Below w.heap.size w w1) := HB.out.trans (b1.mono HB.out.size)
              clear b1 FC HB
              go_wp2_with fail
              go_ret
              exact ⟨by rw [← ED.out, sb_bl]; rfl, B1.out⟩
          · have g0 : decide ((0 : Int) < (t.size : Int)) = false := decide_eq_false (by omega)
            have g1 : decide (0 < t.size) = false := decide_eq_false h0
            have e0 : bl t = [] := List.eq_nil_of_length_eq_zero (by rw [bl_len]; omega)
            have ED : Hid (bl t = res) := by
              have h := HX.out
              rw [e0] at h ⊢
              exact h
            clear HX e0 h0
            go_wp2_with fail
            go_ret
            exact ⟨by rw [← ED.out, sb_bl]; rfl, HB.out⟩
    · have g0 : decide ((0 : Int) < (t.size : Int)) = false := decide_eq_false (by omega)
      have g1 : decide (0 < t.size) = false := decide_eq_false h0
      have e0 : bl t = [] := List.eq_nil_of_length_eq_zero (by rw [bl_len]; omega)
      have R2 : Hid (Trim2 w res (.string t) wr) := ⟨t, rfl, ht, by have h := HX.out; rw [e0] at h ⊢; exact h, HB.out⟩
      clear HX e0 h0 HR
      go_wp2_with fail
      clear g0 g1 HB ht hs
      go_loopw [0] (fun x wl => Hid (Trim2 w res x wl)) (fun x _ => match x with | .string t => t.size | _ => 0)
      case atStart => exact R2
      case round =>
        obtain ⟨t, rfl, ht', hX', hB'⟩ := hrel.out
        have HX := Lib.hid hX'
        have HB := Lib.hid hB'
        clear hX' hB' hrel R2
        by_cases h0 : 0 < t.size
        · have hib : t.size - 1 < (bl t).length := by rw [bl_len]; omega
          have IX : ∀ w, (Instr.index 9 (.string t) (.int .i64 ((t.size - 1 : Nat) : Int))).run Tryd.prog w = .ok (.int .u8 ((bl t)[t.size - 1].toNat : Int)) w := idx_s t (t.size - 1) (by omega)
          have ws : IntKind.i64.wrap ((t.size : Int) - 1) = ((t.size - 1 : Nat) : Int) := by rw [IntWalk.i64_in _ (by omega)]; omega
          have i1 : ((t.size - 1 : Nat) : Int) ≤ (t.size : Int) := by omega
          have i2 : ((t.size - 1 : Nat) : Int) < (t.size : Int) := by omega
          have g0 : decide ((0 : Int) < (t.size : Int)) = true := by simp; omega
          have g1 : decide (0 < t.size) = true := by simpa using h0
          have hcons : bl t = (bl t).take (t.size - 1) ++ [(bl t)[t.size - 1]] := by
            rw [← List.take_succ_eq_append_getElem hib, Nat.sub_add_cancel h0, ← bl_len, List.take_length]
          obtain ⟨b, hb⟩ : ∃ q, (bl t)[t.size - 1] = q := ⟨_, rfl⟩
          rw [hb] at IX hcons
          obtain ⟨k, hk⟩ : ∃ q, b.toNat = q := ⟨_, rfl⟩
          rw [hk] at IX
          have FC := Lib.hid (BC.out k wr)
          by_cases hp : blkK k = true
          · have ED : Hid (rtrB (bl (t.extract 0 (t.size - 1))) = res) := by
              show _ = _
              rw [bl_ext', ← HX.out]
              conv => rhs; rw [hcons]
              rw [rtrB_pos _ (show blkK b.toNat = true by rw [hk]; exact hp)]
              simp
            have sz : (t.extract 0 (t.size - 1)).size = t.size - 1 := by rw [ByteArray.size_extract]; omega
            rw [hp] at FC
            have ht := Lib.hid ht'
            have hpos : Hid (t.size - 1 < t.size) := by show _ < _; omega
            obtain ⟨m, hm⟩ : ∃ q, t.size - 1 = q := ⟨_, rfl⟩
            rw [hm] at ED sz hpos IX ws i1 i2
            have hm2 : Hid (m ≤ 1048576) := by show _ ≤ _; omega
            clear hb hk hcons hp HX hm hib ht'
            go_wp2_with fail
            refine (FC.out).mono ?_
            rintro e w1 ⟨rfl, b1⟩
            have B1 : Hid (Below w.heap.size w w1) := HB.out.trans (b1.mono HB.out.size)
            clear b1 FC
            go_wp2_with fail
            go_roundw
            case rel => exact ⟨_, rfl, by rw [sz]; exact hm2.out, ED.out, B1.out⟩
            case measure => show (t.extract 0 m).size < t.size; rw [sz]; exact hpos.out
          · have ED : Hid (bl t = res) := by
              have h := HX.out
              rw [hcons, rtrB_neg _ (by show ¬ blkK b.toNat = true; rw [hk]; exact hp), ← hcons] at h
              exact h
            have hp2 : blkK k = false := by simpa using hp
            rw [hp2] at FC
            clear hb hk hcons hp hp2 HX
            go_wp2_with fail
            refine (FC.out).mono ?_
            rintro e w1 ⟨rfl, b1⟩
            have B1 : Hid (Below w.heap.size w w1) := HB.out.trans (b1.mono HB.out.size)
            clear b1 FC HB
            go_wp2_with fail
            go_ret
            exact ⟨by rw [← ED.out, sb_bl]; rfl, B1.out⟩
        · have g0 : decide ((0 : Int) < (t.size : Int)) = false := decide_eq_false (by omega)
          have g1 : decide (0 < t.size) = false := decide_eq_false h0
          have e0 : bl t = [] := List.eq_nil_of_length_eq_zero (by rw [bl_len]; omega)
          have ED : Hid (bl t = res) := by
            have h := HX.out
            rw [e0] at h ⊢
            exact h
          clear HX e0 h0
          go_wp2_with fail
          go_ret
          exact ⟨by rw [← ED.out, sb_bl]; rfl, HB.out⟩
#print axioms rtrim_calls
end Go.Proofs.YtibhnkkfaochhaaDoor.Tok
