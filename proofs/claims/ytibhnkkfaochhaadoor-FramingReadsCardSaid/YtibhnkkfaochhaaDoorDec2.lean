/-
  Layer 6: the decoder in memory; put, line.
-/
import Derived.Test.YtibhnkkfaochhaaDoorDec1
import Derived.Shelf.Strings.Prefix
import Derived.StillTailTactics
namespace Go.Proofs.YtibhnkkfaochhaaDoor.Dec
open Go.RowKit Go.Sep
open Go.Proofs.YtibhnkkfaochhaaDoor.Tok
set_option maxRecDepth 100000
set_option linter.unusedVariables false
set_option linter.unusedSimpArgs false

theorem infoB : (Tryd.prog.info? 5).map (fun i => (i.zero, i.size, i.bytes)) = some (some (.int .u8 0), 1, 1) := by kernel_rfl
def cD (S : DS) (vo vu : Value) : Array Value := #[.bool true, .int .i64 S.st, .int .i64 S.left, .int .i64 S.sum, vo, vu, .bool S.done, .int .i64 S.e]
def decA (d : Nat) (S : DS) (O : List UInt8) : Asr := ex fun p : Value × Value => pts d (.cells (cD S p.1 p.2) 47 (0, 0)) * (rowA 5 1 p.1 S.own.length (bc S.own) * rowA 5 1 p.2 O.length (bc O))
theorem dec_open {d : Nat} {S : DS} {O : List UInt8} {F : Asr} {w : World} (h : Holds w (decA d S O * F)) : ∃ vo vu, Holds w (pts d (.cells (cD S vo vu) 47 (0, 0)) * (rowA 5 1 vo S.own.length (bc S.own) * (rowA 5 1 vu O.length (bc O) * F))) := by
  unfold decA at h
  rw [ex_star] at h
  obtain ⟨p, h⟩ := holds_ex.1 h
  exact ⟨p.1, p.2, h.eqv (by ac_rfl)⟩
theorem dec_shut {d : Nat} {S : DS} {O : List UInt8} {vo vu : Value} {F : Asr} {w : World} (h : Holds w (pts d (.cells (cD S vo vu) 47 (0, 0)) * (rowA 5 1 vo S.own.length (bc S.own) * (rowA 5 1 vu O.length (bc O) * F)))) : Holds w (decA d S O * F) := by
  unfold decA
  rw [ex_star]
  exact holds_ex.2 ⟨(vo, vu), h.eqv (by ac_rfl)⟩
structure DecF (w : World) (d : Nat) (S : DS) (vo vu : Value) : Prop where
  c0 : w.cell? ⟨d, 0, none⟩ = some (.bool true)
  c1 : w.cell? ⟨d, 1, none⟩ = some (.int .i64 S.st)
  c2 : w.cell? ⟨d, 2, none⟩ = some (.int .i64 S.left)
  c3 : w.cell? ⟨d, 3, none⟩ = some (.int .i64 S.sum)
  c4 : w.cell? ⟨d, 4, none⟩ = some vo
  c5 : w.cell? ⟨d, 5, none⟩ = some vu
  c6 : w.cell? ⟨d, 6, none⟩ = some (.bool S.done)
  c7 : w.cell? ⟨d, 7, none⟩ = some (.int .i64 S.e)
  fz : ∀ o, w.frozen? ⟨d, o, none⟩ = false
  lt : d < w.heap.size
theorem dec_f {d : Nat} {S : DS} {vo vu : Value} {F : Asr} {w : World} (h : Holds w (pts d (.cells (cD S vo vu) 47 (0, 0)) * F)) : DecF w d S vo vu := by
  have c := h.cell
  have c0 := c 0
  have c1 := c 1
  have c2 := c 2
  have c3 := c 3
  have c4 := c 4
  have c5 := c 5
  have c6 := c 6
  have c7 := c 7
  simp [cD] at c0 c1 c2 c3 c4 c5 c6 c7
  exact ⟨c0, c1, c2, c3, c4, c5, c6, c7, h.frozen, h.lt⟩
def PutC (d : Nat) (S : DS) (O : List UInt8) (c : UInt8) (F : Asr) (w : World) (e : Ending) (w' : World) : Prop := e = .returned (.tuple #[]) ∧ Holds w' (decA d S (O ++ [c]) * F) ∧ Sm w w'
theorem bc_snoc (O : List UInt8) (c : UInt8) : bc O ++ [Value.int .u8 (c.toNat : Int)] = bc (O ++ [c]) := by simp [bc]
theorem put_calls (d : Nat) (S : DS) (O : List UInt8) (c : UInt8) (hO : O.length ≤ 1048576) (F : Asr) (w : World) (hw : Holds w (decA d S O * F)) : Calls Tryd.prog 26 #[.pointer (some ⟨d, 0, none⟩), .int .u8 (c.toNat : Int)] w (PutC d S O c F w) := by
  obtain ⟨vo, vu, h1⟩ := dec_open hw
  have f1 := dec_f h1
  obtain ⟨c0, c1, c2, c3, c4, c5, c6, c7, fz, lt⟩ := f1
  have HA := Lib.hid (((h1.alloc (.cells #[.int .u8 (c.toNat : Int)] 5)).right).eqv (by ac_rfl : _ = rowA 5 1 vu O.length (bc O) * (pts d (.cells (cD S vo vu) 47 (0, 0)) * (rowA 5 1 vo S.own.length (bc S.own) * F))))
  have SA : Hid (Sm w (w.alloc (.cells #[.int .u8 (c.toNat : Int)] 5))) := (Sm.refl w).alloc _
  have M1 : Hid (O.length + 1 ≤ maxLen) := by show _ ≤ _; unfold maxLen; omega
  have M2 : Hid ((O.length + 1) * 1 ≤ 140737488355328) := by show _ ≤ _; omega
  clear hw h1 c0 c1 c2 c3 c4 c6 c7 hO
  go_enter Tryd.func26, Tryd.ntmps26
  go_wp2_with (at_builtin; refine wpList_append_sep rfl _ _ 22 rfl 5 (.int .u8 0) 1 1 Tryd.underlying22 infoB rfl rfl HA.out ⟨w.heap.size, 0, none⟩ 1 1 [.int .u8 (c.toNat : Int)] rfl rfl (cells_new w _ 5 _ rfl) (by simp [Value.oneCell']) M1.out M2.out ?_)
  intro v' w2 h2 s2 hvv
  clear hvv
  rw [bc_snoc] at h2
  obtain ⟨ao', cp', rfl, -⟩ := rowA_slice h2
  have h3 := h2.eqv (star_left_comm _ _ _)
  have f3 := dec_f h3
  have fz3 := f3.fz 5
  have c53 := f3.c5
  have HF : Hid (Holds (w2.setCell ⟨d, 5, none⟩ (.slice ao' (O.length + 1) cp')) (decA d S (O ++ [c]) * F)) := dec_shut (vo := vo) (vu := .slice ao' (O.length + 1) cp') (((h3.store 5 (.slice ao' (O.length + 1) cp')).eqv (by rw [List.length_append]; ac_rfl : _ = pts d (.cells (cD S vo (.slice ao' (O.length + 1) cp')) 47 (0, 0)) * (rowA 5 1 vo S.own.length (bc S.own) * (rowA 5 1 (.slice ao' (O.length + 1) cp') (O ++ [c]).length (bc (O ++ [c])) * F)))))
  have S2 : Hid (Sm w (w2.setCell ⟨d, 5, none⟩ (.slice ao' (O.length + 1) cp'))) := (SA.out.trans s2).setCell _ _
  clear h2 s2 h3 f3 HA SA
  go_wp2_with fail
  go_end0
  exact ⟨rfl, HF.out, S2.out⟩
#print axioms put_calls
end Go.Proofs.YtibhnkkfaochhaaDoor.Dec
