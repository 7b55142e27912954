/-
  Layer 15: Hold, Held.
-/
import Derived.Test.YtefcinifaaablaaSlabSt
namespace Go.Proofs.Ytefcinifaaablaa.Slab
open Go.RowKit Go.Sep
set_option maxRecDepth 100000
set_option linter.unusedVariables false
set_option linter.unusedSimpArgs false

def hdl (c i g : Int) : Value := .agg #[.int .i64 c, .int .i64 i, .int .i64 g]

set_option maxHeartbeats 400000 in
theorem hold_no (a : Nat) (m : List Cls) (F : Asr) (w : World) (c i g : Int) (hf : Fit m) (hw : Holds w (arenaA a m * F)) (hr : right m c i g = false) :
    Calls Try.prog 54 #[.pointer (some ⟨a, 0, none⟩), hdl c i g] w fun e w' => e = .returned (.int .i64 15) ∧ Below w.heap.size w w' := by
  have hw1 := hw.alloc (.cells #[.int .i64 c, .int .i64 i, .int .i64 g] 106)
  rw [star_left_comm] at hw1
  have H := Lib.hid (at_no a m _ _ c i g hf hw1 hr)
  clear hr hw1 hw hf
  unfold hdl
  go_enter Try.func54, Try.ntmps54
  go_wp2_with (go_at_call 73; refine (H.out).mono ?_; rintro e w' ⟨rfl, hb⟩; have HB := Lib.hid hb; clear hb)
  go_ret
  exact ⟨rfl, (Below.alloc (Below.refl _ _) (by simp) _).trans (HB.out.mono (by simp))⟩

set_option maxHeartbeats 400000 in
theorem hold_big (a : Nat) (m : List Cls) (F : Asr) (w : World) (c i : Nat) (hf : Fit m) (hc : c < m.length) (hi : i < m[c].l.length) (g : Int) (hg : m[c].l[i].gen = g)
    (hw : Holds w (arenaA a m * F)) (hb : m[c].l[i].held = 1048576) :
    Calls Try.prog 54 #[.pointer (some ⟨a, 0, none⟩), hdl c i g] w fun e w' => e = .returned (.int .i64 3) ∧ Below w.heap.size w w' := by
  have hw1 := hw.alloc (.cells #[.int .i64 c, .int .i64 i, .int .i64 g] 106)
  rw [star_left_comm] at hw1
  have H := Lib.hid (at_yes a m _ _ c i hf hc hi g hg hw1 (by rw [hb]; rfl))
  obtain ⟨h2, _, h5, h6, h7, _⟩ := arena_facts hf hw1 c i hc hi
  rw [hb] at h6
  generalize m[c].blk = B at *
  clear hw1 hw hf hb h2 h5 hg
  unfold hdl
  go_enter Try.func54, Try.ntmps54
  go_wp2_with (go_at_call 73; refine (H.out).mono ?_; rintro e w' ⟨rfl, hb⟩; have HB := Lib.hid hb; have h8 := (hb.cell (p := ⟨B, i * 3 + 2, none⟩) h7).trans h6; clear hb h6)
  go_ret
  exact ⟨rfl, (Below.alloc (Below.refl _ _) (by simp) _).trans (HB.out.mono (by simp))⟩

set_option maxHeartbeats 400000 in
theorem hold_yes (a : Nat) (m : List Cls) (F : Asr) (w : World) (c i : Nat) (hf : Fit m) (hc : c < m.length) (hi : i < m[c].l.length) (g : Int) (hg : m[c].l[i].gen = g)
    (hw : Holds w (arenaA a m * F)) (hb : m[c].l[i].held < 1048576) (hb0 : 0 < m[c].l[i].held) :
    Calls Try.prog 54 #[.pointer (some ⟨a, 0, none⟩), hdl c i g] w fun e w' => e = .returned (.int .i64 0) ∧ Holds w' (arenaA a (setBlk m c i { m[c].l[i] with held := m[c].l[i].held + 1 }) * F) ∧ Sm w w' := by
  have hw1 := hw.alloc (.cells #[.int .i64 c, .int .i64 i, .int .i64 g] 106)
  rw [star_left_comm] at hw1
  have H := Lib.hid (at_yes a m _ _ c i hf hc hi g hg hw1 (by simp; omega))
  obtain ⟨h2, _, h5, h6, h7, h9⟩ := arena_facts hf hw1 c i hc hi
  have fin : ∀ W, Below (w.heap.size + 1) (w.alloc (.cells #[.int .i64 c, .int .i64 i, .int .i64 g] 106)) W → Holds (W.setCell ⟨m[c].blk, i * 3 + 2, none⟩ (.int .i64 (m[c].l[i].held + 1))) (arenaA a (setBlk m c i { m[c].l[i] with held := m[c].l[i].held + 1 }) * F) ∧ Sm w (W.setCell ⟨m[c].blk, i * 3 + 2, none⟩ (.int .i64 (m[c].l[i].held + 1))) := by
    intro W hb
    exact ⟨arena_set ((hw1.grow (by simpa using hb)).eqv (star_left_comm _ _ _)).right c i 2 hc hi (by omega) _ _ rfl rfl, ((Sm.of_below (Below.alloc (Below.refl _ _) (Nat.le_refl _) _)).grow hb).setCell _ _⟩
  have FIN := Lib.hid fin
  have n1 : (m[c].l[i].held == 1048576) = false := by simp; omega
  revert FIN
  generalize m[c].l[i].held = held at *
  generalize m[c].blk = B at *
  generalize (setBlk m c i _) = m' at *
  intro FIN
  clear fin hw1 hw hf h2 h5 hg
  unfold hdl
  go_enter Try.func54, Try.ntmps54
  go_wp2_with (go_at_call 73; refine (H.out).mono ?_; rintro e w' ⟨rfl, hb⟩; have HB := Lib.hid hb; have h8 := (hb.cell (p := ⟨B, i * 3 + 2, none⟩) h7).trans h6; have h10 := (hb.frozen (p := ⟨B, i * 3 + 2, none⟩) h7).trans (h9 _); clear hb h6)
  go_ret
  exact ⟨rfl, FIN.out _ (by simpa using HB.out)⟩
end Go.Proofs.Ytefcinifaaablaa.Slab
