/-
  Layer 1: strings as lists of bytes; Lower, Same.
-/
import Derived.Test.YtefcinifaaablaaDoorRows
import Derived.Test.YtefcinifaaablaaDoorZRow
import Derived.Test.YtefcinifaaablaaDoorShelf
import Derived.Shelf.Strings.SlTrimAscii
import Derived.Test.YtefcinifaaablaaDoorReg
import Derived.Deep.QuietTactic
import Derived.BigQuiet
import Derived.LoopTactic
import Derived.OwnWalk
import Derived.Outline
namespace Go.Proofs.YtefcinifaaablaaDoor.Tok
open Go.RowKit Go.Sep
open Go.Lib (strCells strCells_length)
set_option maxRecDepth 100000
set_option linter.unusedVariables false
set_option linter.unusedSimpArgs false

/-- a string's bytes -/
def bl (s : ByteArray) : List UInt8 := s.data.toList
def sb (l : List UInt8) : ByteArray := ⟨l.toArray⟩
def bc (l : List UInt8) : List Value := l.map fun b => Value.int .u8 (b.toNat : Int)
theorem bl_sb (l : List UInt8) : bl (sb l) = l := by simp [bl, sb]
theorem sb_bl (s : ByteArray) : sb (bl s) = s := by cases s; simp [bl, sb]
theorem bl_len (s : ByteArray) : (bl s).length = s.size := by simp [bl]
theorem sb_size (l : List UInt8) : (sb l).size = l.length := by simp [sb, ByteArray.size]
theorem bc_len (l : List UInt8) : (bc l).length = l.length := by simp [bc]
theorem strCells_bc (s : ByteArray) : strCells s = bc (bl s) := rfl
theorem sb_inj {l k : List UInt8} (h : sb l = sb k) : l = k := by rw [← bl_sb l, h, bl_sb]
def lowB (b : UInt8) : UInt8 := if 65 ≤ b.toNat ∧ b.toNat ≤ 90 then UInt8.ofNat (b.toNat + 32) else b
def lowL (l : List UInt8) : List UInt8 := l.map lowB
theorem or32 (k : Nat) (h : k < 256) (h1 : 65 ≤ k) (h2 : k ≤ 90) : bits .or .u8 (k : Int) 32 = ((k + 32 : Nat) : Int) := by
  have : ∀ k : Fin 256, 65 ≤ k.val → k.val ≤ 90 → bits .or .u8 (k.val : Int) 32 = ((k.val + 32 : Nat) : Int) := by decide +kernel
  exact this ⟨k, h⟩ h1 h2
theorem lowB_up (b : UInt8) (h1 : 65 ≤ b.toNat) (h2 : b.toNat ≤ 90) : ((lowB b).toNat : Nat) = b.toNat + 32 := by
  unfold lowB
  rw [if_pos ⟨h1, h2⟩]
  simp [UInt8.toNat_ofNat']
  omega
theorem lowB_no (b : UInt8) (h : ¬ (65 ≤ b.toNat ∧ b.toNat ≤ 90)) : lowB b = b := by unfold lowB; rw [if_neg h]
theorem rowZ_store {T : TypeId} {n g cap : Nat} {xs : List Value} {w : World} {F : Asr} (h : Holds w (rowZ T (.slice (some ⟨g, 0, none⟩) n cap) n xs * F)) (j : Nat) (hj : j < n) (u : Value) :
    Holds (w.setCell ⟨g, j, none⟩ u) (rowZ T (.slice (some ⟨g, 0, none⟩) n cap) n (xs.set j u) * F) := by
  obtain ⟨hl, g2, cap2, cur, fz, e1, e2, e3, e4, e5, e6, e7⟩ := rowZ_cases h
  simp only [Value.slice.injEq, Option.some.injEq, Addr.mk.injEq, and_true, true_and] at e1
  obtain ⟨rfl, rfl⟩ := e1
  refine rowZ_mk (e7.store j u) e2 e3 (by simpa using e4) e5 ?_
  rw [Array.toList_setIfInBounds, List.take_set, e6]
theorem rowZ_seen {T : TypeId} {n g cap : Nat} {xs : List Value} {w : World} {F : Asr} (h : Holds w (rowZ T (.slice (some ⟨g, 0, none⟩) n cap) n xs * F)) :
    g < w.heap.size ∧ (∀ j u, xs[j]? = some u → w.cell? ⟨g, j, none⟩ = some u) ∧ ∀ j, j < n → w.frozen? ⟨g, j, none⟩ = false := by
  obtain ⟨hl, g2, cap2, cur, fz, e1, e2, e3, e4, e5, e6, e7⟩ := rowZ_cases h
  simp only [Value.slice.injEq, Option.some.injEq, Addr.mk.injEq, and_true, true_and] at e1
  obtain ⟨rfl, rfl⟩ := e1
  obtain ⟨g3, cap3, e1, hg, hc⟩ := rowZ_cell h
  simp only [Value.slice.injEq, Option.some.injEq, Addr.mk.injEq, and_true, true_and] at e1
  obtain ⟨rfl, rfl⟩ := e1
  refine ⟨hg, hc, fun j hj => ?_⟩
  unfold World.frozen?
  rw [e7.at]
  rcases e5 with rfl | e5
  · simp
  · have : ¬ fz.1 ≤ j := by omega
    simp [this]
theorem back_conv {w : World} {g cap : Nat} {l : List UInt8} {F : Asr} (h : Holds w (rowZ 5 (.slice (some ⟨g, 0, none⟩) l.length cap) l.length (bc l) * F)) : (convert 22 9 (.slice (some ⟨g, 0, none⟩) l.length cap)).run Tryd.prog w = .ok (.string (sb l)) w := by
  have hs := (rowZ_seen h).2.1
  exact run_convert_bytes_back w 22 9 5 ⟨g, 0, none⟩ cap l Tryd.underlying22 Tryd.underlying5 Tryd.underlying9 (fun j hj => by
    rw [Addr.add_lit, Nat.zero_add]
    exact hs j _ (by simp [bc, hj]))
theorem lower_calls (s : ByteArray) (hs : s.size ≤ 1048576) (w : World) : Calls Tryd.prog 35 #[.string s] w fun e w' => e = .returned (.string (sb (lowL (bl s)))) ∧ Below w.heap.size w w' := by
  obtain ⟨l, hl⟩ : ∃ q, bl s = q := ⟨_, rfl⟩
  obtain ⟨v1, w1, hc, h1, s1⟩ := conv_row (P := Tryd.prog) (src := 9) (dst := 22) (e := 5) s Tryd.underlying9 Tryd.underlying22 Tryd.underlying5 hs (holds_all w)
  have hsz : s.size = l.length := by rw [← hl, bl_len]
  rw [strCells_bc, hl, hsz] at h1
  rw [hsz] at hs
  rw [hl]
  obtain ⟨g, cap, e1, -, -⟩ := rowZ_cell h1
  subst e1
  have H1 := Lib.hid h1
  have S1 := Lib.hid s1
  clear h1 s1 hl hsz
  go_enter Tryd.func35, Tryd.ntmps35
  go_wp2_with fail
  clear hc
  go_loopw [10] (fun x wl => ∃ i : Nat, i ≤ l.length ∧ x = .int .i64 i ∧ Hid (Holds wl (rowZ 5 (.slice (some ⟨g, 0, none⟩) l.length cap) l.length (bc (lowL (l.take i) ++ l.drop i)) * all w)) ∧ Hid (Sm w wl)) (fun x _ => l.length - (intOf x).toNat)
  case atStart => exact ⟨0, Nat.zero_le _, rfl, by show Holds _ _; simpa [lowL] using H1.out, S1.out⟩
  case round =>
    clear H1 S1
    obtain ⟨i, hi, rfl, HH, HS⟩ := hrel
    by_cases hil : i < l.length
    · obtain ⟨hg, hcell, hfz⟩ := rowZ_seen HH.out
      obtain ⟨b, hb⟩ : ∃ q, l[i] = q := ⟨_, rfl⟩
      have c0 : wr.cell? ⟨g, i, none⟩ = some (.int .u8 (b.toNat : Int)) := by
        refine hcell i _ ?_
        rw [← hb]
        simp only [bc, List.getElem?_map]
        rw [List.getElem?_append_right (by simp [lowL]; omega)]
        simp [lowL, Nat.min_eq_left hi, hil]
      have f0 := hfz i hil
      have i0 : (0 : Int) ≤ (i : Int) := by omega
      have i1 : (i : Int) < (l.length : Int) := by omega
      have NX : Hid (lowL (l.take i) ++ lowB b :: l.drop (i + 1) = lowL (l.take (i + 1)) ++ l.drop (i + 1)) := by
        show _ = _
        rw [List.take_succ_eq_append_getElem hil, hb]
        simp [lowL]
      have OLD : Hid (lowL (l.take i) ++ l.drop i = lowL (l.take i) ++ b :: l.drop (i + 1)) := by
        show _ = _
        rw [List.drop_eq_getElem_cons hil, hb]
      have NS : Hid (∀ x : UInt8, Holds (wr.setCell ⟨g, i, none⟩ (.int .u8 (x.toNat : Int))) (rowZ 5 (.slice (some ⟨g, 0, none⟩) l.length cap) l.length (bc (lowL (l.take i) ++ x :: l.drop (i + 1))) * all w)) := by
        intro x
        have h := rowZ_store HH.out i hil (.int .u8 (x.toNat : Int))
        rw [OLD.out] at h
        have e : (bc (lowL (l.take i) ++ b :: l.drop (i + 1))).set i (.int .u8 (x.toNat : Int)) = bc (lowL (l.take i) ++ x :: l.drop (i + 1)) := by
          simp only [bc, List.map_append, List.map_cons]
          rw [List.set_append_right _ _ (by simp [lowL]; omega)]
          simp [lowL, Nat.min_eq_left hi]
        rw [e] at h
        exact h
      have SN : Hid (∀ v, Sm w (wr.setCell ⟨g, i, none⟩ v)) := fun v => HS.out.setCell _ _
      have SB : Hid (lowB b = b → Holds wr (rowZ 5 (.slice (some ⟨g, 0, none⟩) l.length cap) l.length (bc (lowL (l.take (i + 1)) ++ l.drop (i + 1))) * all w)) := by
        intro e
        rw [← NX.out, e, ← OLD.out]
        exact HH.out
      obtain ⟨k, hk⟩ : ∃ q, b.toNat = q := ⟨_, rfl⟩
      have hk9 : k < 256 := by rw [← hk]; exact b.toNat_lt
      have UP := lowB_up b
      have NO := lowB_no b
      rw [hk] at c0 UP NO
      have HUP := Lib.hid UP
      have HNO := Lib.hid NO
      clear UP NO hcell hfz hb hk HH OLD
      by_cases h1 : 65 ≤ k
      · by_cases h2 : k ≤ 90
        · have e1 : decide ((65 : Int) ≤ (k : Int)) = true := by simp; omega
          have e2 : decide ((k : Int) ≤ 90) = true := by simp; omega
          have e1n : decide (65 ≤ k) = true := by simpa using h1
          have e2n : decide (k ≤ 90) = true := by simpa using h2
          have eo := or32 k hk9 h1 h2
          have HF := Lib.hid (NS.out (lowB b))
          rw [HUP.out h1 h2, NX.out] at HF
          go_wp2_with fail
          go_roundw
          case rel => exact ⟨i + 1, by omega, by go_num, HF.out, SN.out _⟩
          case measure => simp [intOf]; omega
        · have e1 : decide ((65 : Int) ≤ (k : Int)) = true := by simp; omega
          have e2 : decide ((k : Int) ≤ 90) = false := by simp; omega
          have e1n : decide (65 ≤ k) = true := by simpa using h1
          have e2n : decide (k ≤ 90) = false := by simpa using h2
          have HF := Lib.hid (SB.out (HNO.out (by omega)))
          go_wp2_with fail
          go_roundw
          case rel => exact ⟨i + 1, by omega, by go_num, HF.out, HS.out⟩
          case measure => simp [intOf]; omega
      · have e1 : decide ((65 : Int) ≤ (k : Int)) = false := by simp; omega
        have e1n : decide (65 ≤ k) = false := by simpa using h1
        have HF := Lib.hid (SB.out (HNO.out (by omega)))
        go_wp2_with fail
        go_roundw
        case rel => exact ⟨i + 1, by omega, by go_num, HF.out, HS.out⟩
        case measure => simp [intOf]; omega
    · obtain rfl : i = l.length := by omega
      have HF : Hid (Holds wr (rowZ 5 (.slice (some ⟨g, 0, none⟩) (lowL l).length cap) (lowL l).length (bc (lowL l)) * all w)) := by
        have h := HH.out
        show Holds _ _
        have e : (lowL l).length = l.length := by simp [lowL]
        rw [e]
        simpa using h
      have CV := back_conv HF.out
      rw [show (lowL l).length = l.length by simp [lowL]] at CV
      have FIN := Lib.hid (HF.out.below HS.out)
      clear HH HF
      go_wp2_with fail
      go_ret
      exact ⟨rfl, FIN.out⟩
#print axioms lower_calls
def sameB (a b : ByteArray) : Bool := decide (lowL (bl a) = lowL (bl b))
theorem same_calls (a b : ByteArray) (ha : a.size ≤ 1048576) (hb : b.size ≤ 1048576) (w : World) : Calls Tryd.prog 32 #[.string a, .string b] w fun e w' => e = .returned (.bool (sameB a b)) ∧ Below w.heap.size w w' := by
  have LA := Lib.hid (fun w => lower_calls a ha w)
  have LB := Lib.hid (fun w => lower_calls b hb w)
  by_cases hl : a.size = b.size
  · have e1 : ((a.size : Int) == (b.size : Int)) = true := by rw [hl]; simp
    have e1n : (a.size == b.size) = true := by simpa using hl
    obtain ⟨sv, hsv⟩ : ∃ q, sameB a b = q := ⟨_, rfl⟩
    have HSV : Hid (decide (lowL (bl a) = lowL (bl b)) = sv) := hsv
    obtain ⟨x, hx⟩ : ∃ q, lowL (bl a) = q := ⟨_, rfl⟩
    obtain ⟨y, hy⟩ : ∃ q, lowL (bl b) = q := ⟨_, rfl⟩
    rw [hx] at LA HSV
    rw [hy] at LB HSV
    have eq : ((sb x).toList == (sb y).toList) = sv := by
      rw [← HSV.out, Go.Lib.toList_data, Go.Lib.toList_data]
      have e1 : (sb x).data.toList = x := bl_sb x
      have e2 : (sb y).data.toList = y := bl_sb y
      rw [e1, e2]
      by_cases h : x = y
      · subst h; simp
      · rw [decide_eq_false h]
        exact beq_eq_false_iff_ne.2 h
    rw [hsv]
    clear hsv hx hy HSV
    go_enter Tryd.func32, Tryd.ntmps32
    go_wp2_with fail
    refine (LA.out _).mono ?_
    rintro e w1 ⟨rfl, h1⟩
    have B1 := Lib.hid h1
    clear h1
    go_wp2_with fail
    refine (LB.out _).mono ?_
    rintro e w2 ⟨rfl, h2⟩
    have B2 : Hid (Below w.heap.size w w2) := B1.out.trans (h2.mono B1.out.size)
    clear h2 B1
    go_wp2_with fail
    go_ret
    exact ⟨rfl, B2.out⟩
  · have e1 : ((a.size : Int) == (b.size : Int)) = false := beq_eq_false_iff_ne.2 (by omega)
    have e1n : (a.size == b.size) = false := by simpa using hl
    have hne : sameB a b = false := by
      unfold sameB
      refine decide_eq_false fun h => hl ?_
      have := congrArg List.length h
      simpa [lowL, bl_len] using this
    rw [hne]
    clear hne
    go_enter Tryd.func32, Tryd.ntmps32
    go_wp2_with fail
    go_ret
    exact ⟨rfl, Below.refl _ _⟩
#print axioms same_calls
def trimL (l : List UInt8) : List UInt8 := Go.Lib.trimS l [32, 9]
theorem trim_calls (s : ByteArray) (hs : s.size ≤ 1048576) (w : World) : Calls Tryd.prog 47 #[.string s] w fun e w' => e = .returned (.string (sb (trimL (bl s)))) ∧ Below w.heap.size w w' := by
  have hcon := Any.strings_Trim_laid Tryd.lays160 (by kernel_rfl) s ⟨#[32, 9]⟩ w (by omega) (by decide) (ascii_of_all (by decide))
  change Calls Tryd.prog 58 _ _ (fun e w' => e = .returned (.string (sb (trimL (bl s)))) ∧ Below w.heap.size w w') at hcon
  have HC := Lib.hid hcon
  clear hcon
  go_enter Tryd.func47, Tryd.ntmps47
  go_wp2_with fail
  refine (HC.out).mono ?_
  rintro e w' ⟨rfl, hB⟩
  go_wp2_with fail
  go_ret
  exact ⟨rfl, hB⟩
#print axioms trim_calls
end Go.Proofs.YtefcinifaaablaaDoor.Tok
