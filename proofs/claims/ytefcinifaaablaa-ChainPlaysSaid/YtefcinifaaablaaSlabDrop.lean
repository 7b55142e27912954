/-
  Layer 15: Drop.
-/
import Derived.Test.YtefcinifaaablaaSlabHold
import Derived.Test.YtefcinifaaablaaMem
namespace Go.Proofs.Ytefcinifaaablaa.Slab
open Go.RowKit Go.Sep
set_option maxRecDepth 100000
set_option linter.unusedVariables false
set_option linter.unusedSimpArgs false

theorem setBlk_eq {m : List Cls} {c i : Nat} {b : Blk} (hc : c < m.length) : setBlk m c i b = m.set c ⟨m[c].blk, m[c].l.set i b⟩ := by
  unfold setBlk; rw [modify_set _ _ _ (by simpa using hc)]; simp

/-- The bytes of one block, and the rest of the arena. -/
theorem arena_bytes {a : Nat} {m : List Cls} {F : Asr} (c i : Nat) (hc : c < m.length) (hi : i < m[c].l.length) :
    ∃ R, arenaA a m * F = bytesA m[c].l[i] * R ∧ ∀ b : Blk, b.enc = m[c].l[i].enc → arenaA a (setBlk m c i b) * F = bytesA b * R := by
  refine ⟨pts m[c].blk (.cells (flat Blk.enc m[c].l) 110 (0, 0)) * (big bytesA (m[c].l.eraseIdx i) * (pts a (.cells (Value.bool true :: m.map Cls.sl).toArray 99 (0, 0)) * (big clsA (m.eraseIdx c) * F))), ?_, ?_⟩
  · rw [arena_cls c hc]
    unfold clsA
    rw [big_at bytesA _ i hi]
    ac_rfl
  · intro b hb
    have hm := setBlk_eq (m := m) (i := i) (b := b) hc
    have hc' : c < (setBlk m c i b).length := by rw [hm]; simpa using hc
    rw [arena_cls c hc']
    have e1 : (setBlk m c i b)[c] = ⟨m[c].blk, m[c].l.set i b⟩ := by simp [hm]
    have e2 : (setBlk m c i b).eraseIdx c = m.eraseIdx c := by rw [hm, List.eraseIdx_set_eq]
    have e3 : (setBlk m c i b).map Cls.sl = m.map Cls.sl := by
      rw [hm, List.map_set]
      have : Cls.sl ⟨m[c].blk, m[c].l.set i b⟩ = (m.map Cls.sl)[c]'(by simpa using hc) := by simp [Cls.sl]
      rw [this, List.set_getElem_self]
    have e4 : flat Blk.enc (m[c].l.set i b) = flat Blk.enc m[c].l := by
      rw [← flat_set enc_len i 0 hi (by omega) (m[c].l[i].enc[0]'(by rw [enc_len]; omega)) b (by rw [hb, List.set_getElem_self])]
      apply Array.ext'
      rw [Array.toList_setIfInBounds]
      have := flat_get enc_len i 0 hi (by omega)
      apply List.ext_getElem?
      intro k
      rw [List.getElem?_set]
      split
      · rename_i e; subst e
        rw [← Array.getElem?_toList] at this
        rw [this]
        split
        · simp [enc_len]
        · rename_i h; rw [List.getElem?_eq_none (by omega)] at this; simp [Blk.enc] at this
      · rfl
    rw [e1, e2, e3]
    unfold clsA
    simp only
    rw [big_set _ _ _ _ hi, e4]
    ac_rfl

def zeros (n : Nat) : List Int := List.replicate n 0
def dropped (b : Blk) : Blk := { b with held := b.held - 1, bytes := if b.held = 1 then zeros b.bytes.length else b.bytes }

theorem arena_clear {w : World} {a : Nat} {m : List Cls} {F : Asr} (c i : Nat) (hc : c < m.length) (hi : i < m[c].l.length) (hmade : m[c].l[i].made = true) (h : Holds w (arenaA a m * F)) :
    ∃ F', Holds w (pts m[c].l[i].loc (.cells (m[c].l[i].bytes.map (Value.int .u8)).toArray 5 (0, 0)) * F') ∧
      ∀ w' (bs : List Int), bs.length = m[c].l[i].bytes.length → Holds w' (pts m[c].l[i].loc (.cells (bs.map (Value.int .u8)).toArray 5 (0, 0)) * F') → Holds w' (arenaA a (setBlk m c i { m[c].l[i] with bytes := bs }) * F) := by
  obtain ⟨R, h1, h2⟩ := arena_bytes (a := a) (F := F) c i hc hi
  refine ⟨R, ?_, fun w' bs hl h' => ?_⟩
  · have := h.eqv h1; unfold bytesA at this; rwa [if_pos hmade] at this
  · rw [h2 _ (by simp [Blk.enc, Blk.sl, hl])]
    unfold bytesA; rw [if_pos (by exact hmade)]; exact h'

theorem setBlk_setBlk {m : List Cls} {c i : Nat} {b b' : Blk} : setBlk (setBlk m c i b) c i b' = setBlk m c i b' := by
  unfold setBlk
  apply List.ext_getElem?
  intro j
  simp only [List.getElem?_modify]
  by_cases e : c = j <;> simp [e] <;> cases m[j]? <;> simp [List.set_set]
theorem setBlk_get {m : List Cls} {c i : Nat} {b : Blk} (hc : c < m.length) (hi : i < m[c].l.length) : ∃ (h1 : c < (setBlk m c i b).length) (h2 : i < (setBlk m c i b)[c].l.length), (setBlk m c i b)[c].l[i] = b ∧ (setBlk m c i b)[c].blk = m[c].blk := by
  have hm := setBlk_eq (m := m) (i := i) (b := b) hc
  refine ⟨by rw [hm]; simpa using hc, ?_, ?_, ?_⟩ <;> simp [hm, hi]

set_option maxHeartbeats 400000 in
theorem drop_no (a : Nat) (m : List Cls) (F : Asr) (w : World) (c i g : Int) (hf : Fit m) (hw : Holds w (arenaA a m * F)) (hr : right m c i g = false) :
    Calls Try.prog 56 #[.pointer (some ⟨a, 0, none⟩), hdl c i g] w fun e w' => e = .returned (.int .i64 15) ∧ Below w.heap.size w w' := by
  have hw1 := hw.alloc (.cells #[.int .i64 c, .int .i64 i, .int .i64 g] 106)
  rw [star_left_comm] at hw1
  have H := Lib.hid (at_no a m _ _ c i g hf hw1 hr)
  clear hr hw1 hw hf
  unfold hdl
  go_enter Try.func56, Try.ntmps56
  go_wp2_with (go_at_call 73; refine (H.out).mono ?_; rintro e w' ⟨rfl, hb⟩; have HB := Lib.hid hb; clear hb)
  go_ret
  exact ⟨rfl, (Below.alloc (Below.refl _ _) (by simp) _).trans (HB.out.mono (by simp))⟩

theorem u8zero (w : World) : (zeroValue 5).run Try.prog w = .ok (.int .u8 0) w := by kernel_rfl

set_option maxHeartbeats 400000 in
theorem drop_yes (a : Nat) (m : List Cls) (F : Asr) (w : World) (c i : Nat) (hf : Fit m) (hc : c < m.length) (hi : i < m[c].l.length) (g : Int) (hg : m[c].l[i].gen = g)
    (hw : Holds w (arenaA a m * F)) (hb : m[c].l[i].held ≤ 1048576) (hb0 : 0 < m[c].l[i].held) (hmade : m[c].l[i].made = true) (hlen : 0 < m[c].l[i].bytes.length) :
    Calls Try.prog 56 #[.pointer (some ⟨a, 0, none⟩), hdl c i g] w fun e w' => e = .returned (.int .i64 0) ∧ Holds w' (arenaA a (setBlk m c i (dropped m[c].l[i])) * F) ∧ Sm w w' := by
  have hw1 := hw.alloc (.cells #[.int .i64 c, .int .i64 i, .int .i64 g] 106)
  rw [star_left_comm] at hw1
  have H := Lib.hid (at_yes a m _ _ c i hf hc hi g hg hw1 (by simp; omega))
  obtain ⟨h2, h4, h5, h6, h7, h9⟩ := arena_facts hf hw1 c i hc hi
  have stp : ∀ W, Below (w.heap.size + 1) (w.alloc (.cells #[.int .i64 c, .int .i64 i, .int .i64 g] 106)) W → Holds (W.setCell ⟨m[c].blk, i * 3 + 2, none⟩ (.int .i64 (m[c].l[i].held - 1))) (arenaA a (setBlk m c i { m[c].l[i] with held := m[c].l[i].held - 1 }) * F) ∧ Sm w (W.setCell ⟨m[c].blk, i * 3 + 2, none⟩ (.int .i64 (m[c].l[i].held - 1))) := by
    intro W hb
    exact ⟨arena_set ((hw1.grow (by simpa using hb)).eqv (star_left_comm _ _ _)).right c i 2 hc hi (by omega) _ _ rfl rfl, ((Sm.of_below (Below.alloc (Below.refl _ _) (Nat.le_refl _) _)).grow hb).setCell _ _⟩
  rw [Blk.sl, if_pos hmade] at h4
  by_cases hone : m[c].l[i].held = 1
  · have cl : ∀ W, Below (w.heap.size + 1) (w.alloc (.cells #[.int .i64 c, .int .i64 i, .int .i64 g] 106)) W → ∃ w', (∀ ty, (Builtin.clear_ #[30] ty #[.slice (some ⟨m[c].l[i].loc, 0, none⟩) m[c].l[i].bytes.length m[c].l[i].bytes.length]).run Try.prog (W.setCell ⟨m[c].blk, i * 3 + 2, none⟩ (.int .i64 (m[c].l[i].held - 1))) = .ok (.tuple #[]) w') ∧
        Holds w' (arenaA a (setBlk m c i (dropped m[c].l[i])) * F) ∧ Sm w w' := by
      intro W hb
      obtain ⟨k1, k2⟩ := stp W hb
      obtain ⟨g1, g2, g3, g4⟩ := setBlk_get (b := { m[c].l[i] with held := m[c].l[i].held - 1 }) hc hi
      obtain ⟨F', f1, f2⟩ := arena_clear c i g1 g2 (by rw [g3]; exact hmade) k1
      rw [g3] at f1 f2
      refine ⟨_, fun ty => run_clear_row ty Try.underlying30 u8zero rfl rfl f1 (by simp) hlen, ?_, k2.setRow _ _⟩
      have f3 := f2 _ (zeros m[c].l[i].bytes.length) (by simp [zeros]) ((f1.setRow (Array.replicate m[c].l[i].bytes.length (.int .u8 0))).eqv (by simp [zeros]))
      rw [setBlk_setBlk] at f3
      refine f3.eqv ?_
      unfold dropped; rw [if_pos hone]
    have CL := Lib.hid cl
    rw [hone] at h6
    revert CL
    rw [show m[c].l[i].held - 1 = 0 by omega]
    generalize m[c].l[i].loc = loc at *
    generalize m[c].l[i].bytes.length = len at *
    generalize m[c].blk = B at *
    generalize (setBlk m c i (dropped m[c].l[i])) = m' at *
    intro CL
    clear stp cl hw1 hw hf h2 h5 hg hmade hone hb hb0
    unfold hdl
    go_enter Try.func56, Try.ntmps56
    go_wp2_with (first | (go_at_call 73; refine (H.out).mono ?_; rintro e w' ⟨rfl, hb⟩; have HB := Lib.hid hb; have h8 := (hb.cell (p := ⟨B, i * 3 + 2, none⟩) h7).trans h6; have h11 := (hb.cell (p := ⟨B, i * 3, none⟩) h7).trans h4; have h10 := (hb.frozen (p := ⟨B, i * 3 + 2, none⟩) h7).trans (h9 _); clear hb h6 h4) | (obtain ⟨w3, r1, r2, r3⟩ := CL.out _ (by simpa using HB.out); have R2 := Lib.hid r2; have R3 := Lib.hid r3; with_reducible refine wpList_clear_run rfl _ _ rfl _ w3 (r1 _) ?_; clear r1 r2 r3))
    go_ret
    exact ⟨rfl, R2.out, R3.out⟩
  · have FIN := Lib.hid stp
    have n1 : (m[c].l[i].held - 1 == 0) = false := by simp; omega
    have n2 : Hid ({ m[c].l[i] with held := m[c].l[i].held - 1 } = dropped m[c].l[i]) := by unfold dropped; rw [if_neg hone]; rfl
    rw [n2.out] at FIN
    revert FIN
    generalize m[c].l[i].held = held at *
    generalize m[c].blk = B at *
    generalize (setBlk m c i (dropped _)) = m' at *
    intro FIN
    clear n2 stp hw1 hw hf h2 h4 h5 hg hmade hone
    unfold hdl
    go_enter Try.func56, Try.ntmps56
    go_wp2_with (go_at_call 73; refine (H.out).mono ?_; rintro e w' ⟨rfl, hb⟩; have HB := Lib.hid hb; have h8 := (hb.cell (p := ⟨B, i * 3 + 2, none⟩) h7).trans h6; have h10 := (hb.frozen (p := ⟨B, i * 3 + 2, none⟩) h7).trans (h9 _); clear hb h6)
    go_ret
    exact ⟨rfl, FIN.out _ (by simpa using HB.out)⟩
#print axioms drop_yes
end Go.Proofs.Ytefcinifaaablaa.Slab
