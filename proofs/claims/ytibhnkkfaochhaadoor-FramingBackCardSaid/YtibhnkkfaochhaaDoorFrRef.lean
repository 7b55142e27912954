/-
  FramingChunks: the document's chunk; the last chunk.
-/
import Derived.Test.YtibhnkkfaochhaaDoorFrChunk
import Derived.Test.YtibhnkkfaochhaaDoorZRow
import Derived.Lib.SlBytesConst
namespace Go.Proofs.YtibhnkkfaochhaaDoor.Fr
open Go.RowKit Go.Sep
open Go.Lib (strCells strCells_length)
set_option maxRecDepth 100000
set_option linter.unusedVariables false
set_option linter.unusedSimpArgs false

def RowCZ (L : List Int) (F : Asr) (w : World) (e : Ending) (w' : World) : Prop := ∃ v, e = .returned v ∧ Holds w' (rowZ 5 v L.length (u8s L) * F) ∧ Sm w w'
def dgB (d : Nat) : UInt8 := if d < 10 then (48 + d).toUInt8 else (87 + d).toUInt8
def digS : ByteArray := ⟨#[48, 49, 50, 51, 52, 53, 54, 55, 56, 57, 97, 98, 99, 100, 101, 102]⟩
theorem dgB_dg (d : Nat) (h : d < 16) : ((dgB d).toNat : Int) = dg d := by
  have : d = 0 ∨ d = 1 ∨ d = 2 ∨ d = 3 ∨ d = 4 ∨ d = 5 ∨ d = 6 ∨ d = 7 ∨ d = 8 ∨ d = 9 ∨ d = 10 ∨ d = 11 ∨ d = 12 ∨ d = 13 ∨ d = 14 ∨ d = 15 := by omega
  rcases this with rfl | rfl | rfl | rfl | rfl | rfl | rfl | rfl | rfl | rfl | rfl | rfl | rfl | rfl | rfl | rfl <;> rfl
theorem dig_ext (d : Nat) (h : d < 16) : digS.extract d (d + 1) = ⟨#[dgB d]⟩ := by
  have : d = 0 ∨ d = 1 ∨ d = 2 ∨ d = 3 ∨ d = 4 ∨ d = 5 ∨ d = 6 ∨ d = 7 ∨ d = 8 ∨ d = 9 ∨ d = 10 ∨ d = 11 ∨ d = 12 ∨ d = 13 ∨ d = 14 ∨ d = 15 := by omega
  rcases this with rfl | rfl | rfl | rfl | rfl | rfl | rfl | rfl | rfl | rfl | rfl | rfl | rfl | rfl | rfl | rfl <;> rfl
theorem hexL_zero (f : Nat) : hexL f 0 = [] := by cases f <;> simp [hexL]
theorem ints_cons (b : UInt8) (D : ByteArray) : ints (⟨#[b]⟩ ++ D) = (b.toNat : Int) :: ints D := by simp [ints, ByteArray.data_append]
theorem ints_snoc (D E : ByteArray) : ints (D ++ E) = ints D ++ ints E := by simp [ints, ByteArray.data_append]
theorem last_calls (F : Asr) (w : World) (hw : Holds w F) : Calls Tryd.prog 13 #[] w fun e w' => ∃ g, e = .returned (.slice (some ⟨g, 0, none⟩) 5 5) ∧ Holds w' (pts g (.cells (u8s [48, 13, 10, 13, 10]).toArray 5 (5, 6)) * F) ∧ Sm w w' := by
  have H : Hid (Holds (w.alloc (.cells #[.int .u8 48, .int .u8 13, .int .u8 10, .int .u8 13, .int .u8 10] 5 (5, 6))) (pts w.heap.size (.cells (u8s [48, 13, 10, 13, 10]).toArray 5 (5, 6)) * F)) := hw.alloc _
  have S : Hid (Sm w (w.alloc (.cells #[.int .u8 48, .int .u8 13, .int .u8 10, .int .u8 13, .int .u8 10] 5 (5, 6)))) := (Sm.refl w).alloc _
  have CS := Go.Lib.run_convert_bytes_const (P := Tryd.prog) w 22 5 #[.int .u8 48, .int .u8 13, .int .u8 10, .int .u8 13, .int .u8 10] 5 5 Tryd.underlying22 Tryd.underlying5
  simp only [List.size_toArray, List.length_cons, List.length_nil, Nat.zero_add, Nat.reduceAdd] at CS
  clear hw
  go_enter Tryd.func13, Tryd.ntmps13
  go_wp2_with fail
  go_ret
  exact ⟨_, rfl, H.out, S.out⟩
#print axioms last_calls
end Go.Proofs.YtibhnkkfaochhaaDoor.Fr
