/-
  Layer 1: strings as lists of bytes; Lower, Same.
-/
import Derived.Test.YtibhnkkfaochhaaDoorRows
import Derived.Test.YtibhnkkfaochhaaDoorZRow
import Derived.Test.YtibhnkkfaochhaaDoorShelf
import Derived.Shelf.Strings.SlTrimAscii
import Derived.Test.YtibhnkkfaochhaaDoorReg
import Derived.Deep.QuietTactic
import Derived.BigQuiet
import Derived.LoopTactic
import Derived.OwnWalk
import Derived.Outline
namespace Go.Proofs.YtibhnkkfaochhaaDoor.Tok
open Go.RowKit Go.Sep
open Go.Lib (strCells strCells_length)
set_option maxRecDepth 100000
set_option linter.unusedVariables false
set_option linter.unusedSimpArgs false

/-- a string's bytes -/
def bl (s : ByteArray) : List UInt8 := s.data.toList
def sb (l : List UInt8) : ByteArray := ⟨l.toArray⟩
def bc (l : List UInt8) : List Value := l.map fun b => Value.int .u8 (b.toNat : Int)
theorem bl_sb (l : List UInt8) : bl (sb l) = l := by simp [bl, sb]
theorem sb_bl (s : ByteArray) : sb (bl s) = s := by cases s; simp [bl, sb]
theorem bl_len (s : ByteArray) : (bl s).length = s.size := by simp [bl]
theorem sb_size (l : List UInt8) : (sb l).size = l.length := by simp [sb, ByteArray.size]
theorem bc_len (l : List UInt8) : (bc l).length = l.length := by simp [bc]
theorem strCells_bc (s : ByteArray) : strCells s = bc (bl s) := rfl
theorem sb_inj {l k : List UInt8} (h : sb l = sb k) : l = k := by rw [← bl_sb l, h, bl_sb]
def lowB (b : UInt8) : UInt8 := if 65 ≤ b.toNat ∧ b.toNat ≤ 90 then UInt8.ofNat (b.toNat + 32) else b
def lowL (l : List UInt8) : List UInt8 := l.map lowB
theorem or32 (k : Nat) (h : k < 256) (h1 : 65 ≤ k) (h2 : k ≤ 90) : bits .or .u8 (k : Int) 32 = ((k + 32 : Nat) : Int) := by
  have : ∀ k : Fin 256, 65 ≤ k.val → k.val ≤ 90 → bits .or .u8 (k.val : Int) 32 = ((k.val + 32 : Nat) : Int) := by decide +kernel
  exact this ⟨k, h⟩ h1 h2
theorem lowB_up (b : UInt8) (h1 : 65 ≤ b.toNat) (h2 : b.toNat ≤ 90) : ((lowB b).toNat : Nat) = b.toNat + 32 := by
  unfold lowB
  rw [if_pos ⟨h1, h2⟩]
  simp [UInt8.toNat_ofNat']
  omega
theorem lowB_no (b : UInt8) (h : ¬ (65 ≤ b.toNat ∧ b.toNat ≤ 90)) : lowB b = b := by unfold lowB; rw [if_neg h]
theorem rowZ_store {T : TypeId} {n g cap : Nat} {xs : List Value} {w : World} {F : Asr} (h : Holds w (rowZ T (.slice (some ⟨g, 0, none⟩) n cap) n xs * F)) (j : Nat) (hj : j < n) (u : Value) :
    Holds (w.setCell ⟨g, j, none⟩ u) (rowZ T (.slice (some ⟨g, 0, none⟩) n cap) n (xs.set j u) * F) := by
  obtain ⟨hl, g2, cap2, cur, fz, e1, e2, e3, e4, e5, e6, e7⟩ := rowZ_cases h
  simp only [Value.slice.injEq, Option.some.injEq, Addr.mk.injEq, and_true, true_and] at e1
  obtain ⟨rfl, rfl⟩ := e1
  refine rowZ_mk (e7.store j u) e2 e3 (by simpa using e4) e5 ?_
  rw [Array.toList_setIfInBounds, List.take_set, e6]
theorem rowZ_seen {T : TypeId} {n g cap : Nat} {xs : List Value} {w : World} {F : Asr} (h : Holds w (rowZ T (.slice (some ⟨g, 0, none⟩) n cap) n xs * F)) :
    g < w.heap.size ∧ (∀ j u, xs[j]? = some u → w.cell? ⟨g, j, none⟩ = some u) ∧ ∀ j, j < n → w.frozen? ⟨g, j, none⟩ = false := by
  obtain ⟨hl, g2, cap2, cur, fz, e1, e2, e3, e4, e5, e6, e7⟩ := rowZ_cases h
  simp only [Value.slice.injEq, Option.some.injEq, Addr.mk.injEq, and_true, true_and] at e1
  obtain ⟨rfl, rfl⟩ := e1
  obtain ⟨g3, cap3, e1, hg, hc⟩ := rowZ_cell h
  simp only [Value.slice.injEq, Option.some.injEq, Addr.mk.injEq, and_true, true_and] at e1
  obtain ⟨rfl, rfl⟩ := e1
  refine ⟨hg, hc, fun j hj => ?_⟩
  unfold World.frozen?
  rw [e7.at]
  rcases e5 with rfl | e5
  · simp
  · have : ¬ fz.1 ≤ j := by omega
    simp [this]
theorem back_conv {w : World} {g cap : Nat} {l : List UInt8} {F : Asr} (h : Holds w (rowZ 5 (.slice (some ⟨g, 0, none⟩) l.length cap) l.length (bc l) * F)) : (convert 22 9 (.slice (some ⟨g, 0, none⟩) l.length cap)).run Tryd.prog w = .ok (.string (sb l)) w := by
  have hs := (rowZ_seen h).2.1
  exact run_convert_bytes_back w 22 9 5 ⟨g, 0, none⟩ cap l Tryd.underlying22 Tryd.underlying5 Tryd.underlying9 (fun j hj => by
    rw [Addr.add_lit, Nat.zero_add]
    exact hs j _ (by simp [bc, hj]))
def sameB (a b : ByteArray) : Bool := decide (lowL (bl a) = lowL (bl b))
def trimL (l : List UInt8) : List UInt8 := Go.Lib.trimS l [32, 9]
theorem trim_calls (s : ByteArray) (hs : s.size ≤ 1048576) (w : World) : Calls Tryd.prog 34 #[.string s] w fun e w' => e = .returned (.string (sb (trimL (bl s)))) ∧ Below w.heap.size w w' := by
  have hcon := Any.strings_Trim_laid Tryd.lays160 (by kernel_rfl) s ⟨#[32, 9]⟩ w (by omega) (by decide) (ascii_of_all (by decide))
  change Calls Tryd.prog 49 _ _ (fun e w' => e = .returned (.string (sb (trimL (bl s)))) ∧ Below w.heap.size w w') at hcon
  have HC := Lib.hid hcon
  clear hcon
  go_enter Tryd.func34, Tryd.ntmps34
  go_wp2_with fail
  refine (HC.out).mono ?_
  rintro e w' ⟨rfl, hB⟩
  go_wp2_with fail
  go_ret
  exact ⟨rfl, hB⟩
#print axioms trim_calls
end Go.Proofs.YtibhnkkfaochhaaDoor.Tok
