/-
  Layer 15: Hold, Drop, Held over the arena's model.
-/
import Derived.Test.YtefcinifaaablaaSlabAt
namespace Go.Proofs.Ytefcinifaaablaa.Slab
open Go.RowKit Go.Sep
set_option maxRecDepth 100000
set_option linter.unusedVariables false
set_option linter.unusedSimpArgs false

theorem modify_set {α : Type _} (m : List α) (c : Nat) (f : α → α) (h : c < m.length) : m.modify c f = m.set c (f m[c]) := by
  apply List.ext_getElem?
  intro j
  rw [List.getElem?_modify, List.getElem?_set]
  by_cases e : c = j
  · subst e; simp [h]
  · simp [e]

def blkAt (m : List Cls) (c i : Int) : Option Blk := if 0 ≤ c ∧ 0 ≤ i then (m[c.toNat]?).bind fun k => k.l[i.toNat]? else none
def right (m : List Cls) (c i g : Int) : Bool := match blkAt m c i with
  | some b => b.held != 0 && b.gen == g
  | none => false
def setBlk (m : List Cls) (c i : Int) (b : Blk) : List Cls := m.modify c.toNat fun k => { k with l := k.l.set i.toNat b }

structure Fit (m : List Cls) : Prop where
  len : m.length = 4
  cap : ∀ k ∈ m, k.l.length ≤ 4096

theorem Fit.setBlk {m : List Cls} (h : Fit m) (c i : Int) (b : Blk) : Fit (setBlk m c i b) := by
  refine ⟨by simp [Slab.setBlk, h.len], fun k hk => ?_⟩
  obtain ⟨j, hj, rfl⟩ := List.getElem_of_mem hk
  simp only [Slab.setBlk, List.getElem_modify]
  split
  · simpa using h.cap _ (List.getElem_mem _)
  · exact h.cap _ (List.getElem_mem _)

theorem right_parts {m : List Cls} {c i g : Int} (h : right m c i g = true) :
    ∃ (c' i' : Nat) (hc : c' < m.length) (hi : i' < m[c'].l.length), c = c' ∧ i = i' ∧ blkAt m c i = some m[c'].l[i'] ∧ (m[c'].l[i'].held == 0) = false ∧ m[c'].l[i'].gen = g := by
  unfold right at h
  cases hb : blkAt m c i with
  | none => simp [hb] at h
  | some b =>
    simp only [hb, Bool.and_eq_true, bne_iff_ne, beq_iff_eq] at h
    have hb' := hb
    unfold blkAt at hb
    split at hb
    · rename_i h0
      obtain ⟨k, hk, hl⟩ := Option.bind_eq_some_iff.1 hb
      obtain ⟨hc, rfl⟩ := List.getElem?_eq_some_iff.1 hk
      obtain ⟨hi, rfl⟩ := List.getElem?_eq_some_iff.1 hl
      exact ⟨c.toNat, i.toNat, hc, hi, by omega, by omega, rfl, by simpa using h.1, h.2⟩
    · simp at hb

theorem arena_facts {w : World} {a : Nat} {m : List Cls} {F : Asr} (hf : Fit m) (hw : Holds w (arenaA a m * F)) (c i : Nat) (hc : c < m.length) (hi : i < m[c].l.length) :
    w.cell? ⟨a, 1 + c, none⟩ = some (.slice (some ⟨m[c].blk, 0, none⟩) m[c].l.length m[c].l.length) ∧ w.cell? ⟨m[c].blk, i * 3, none⟩ = some m[c].l[i].sl ∧ w.cell? ⟨m[c].blk, i * 3 + 1, none⟩ = some (.int .i64 m[c].l[i].gen) ∧
      w.cell? ⟨m[c].blk, i * 3 + 2, none⟩ = some (.int .i64 m[c].l[i].held) ∧ m[c].blk < w.heap.size ∧ (∀ o, w.frozen? ⟨m[c].blk, o, none⟩ = false) := by
  have h4 := hw.eqv (arena_cls c hc)
  refine ⟨arena_sl hw c hc, cells_lt h4 i hi 0 (by omega), cells_lt h4 i hi 1 (by omega), cells_lt h4 i hi 2 (by omega), ?_, ?_⟩
  · unfold clsA at h4; rw [star_assoc] at h4; exact h4.lt
  · unfold clsA at h4; rw [star_assoc] at h4; exact h4.frozen

theorem at_yes (a : Nat) (m : List Cls) (F : Asr) (w : World) (c i : Nat) (hf : Fit m) (hc : c < m.length) (hi : i < m[c].l.length) (g : Int) (hg : m[c].l[i].gen = g)
    (hw : Holds w (arenaA a m * F)) (hh : (m[c].l[i].held == 0) = false) :
    Calls Try.prog 73 #[.pointer (some ⟨a, 0, none⟩), .agg #[.int .i64 c, .int .i64 i, .int .i64 g]] w fun e w' => e = .returned (.tuple #[.pointer (some ⟨m[c].blk, i * 3, none⟩), .int .i64 0]) ∧ Below w.heap.size w w' := by
  obtain ⟨h2, _, h5, h6, h7, _⟩ := arena_facts hf hw c i hc hi
  subst hg
  exact at_core a _ c i _ _ _ w (by have := hf.len; omega) hi (hf.cap _ (List.getElem_mem _)) (arena_made hw) h2 (arena_lt hw) h5 h6 h7 hh

theorem at_no (a : Nat) (m : List Cls) (F : Asr) (w : World) (c i g : Int) (hf : Fit m) (hw : Holds w (arenaA a m * F)) (hr : right m c i g = false) :
    Calls Try.prog 73 #[.pointer (some ⟨a, 0, none⟩), .agg #[.int .i64 c, .int .i64 i, .int .i64 g]] w fun e w' => e = .returned (.tuple #[.pointer none, .int .i64 15]) ∧ Below w.heap.size w w' := by
  by_cases h1 : c < 0
  · exact at_bad1 a c i g w h1 (arena_made hw) (arena_lt hw)
  by_cases h2 : 4 ≤ c
  · exact at_bad2 a c i g w h2 (arena_made hw) (arena_lt hw)
  by_cases h3 : i < 0
  · exact at_bad3 a c i g w (by omega) (by omega) h3 (arena_made hw) (arena_lt hw)
  obtain ⟨c', rfl⟩ := Int.eq_ofNat_of_zero_le (show 0 ≤ c by omega)
  obtain ⟨i', rfl⟩ := Int.eq_ofNat_of_zero_le (show 0 ≤ i by omega)
  have hc : c' < m.length := by have := hf.len; omega
  have hcap := hf.cap m[c'] (List.getElem_mem hc)
  by_cases h4 : (m[c'].l.length : Int) ≤ i'
  · exact at_bad4 a _ c' _ i' g w (by omega) h4 hcap (arena_made hw) (arena_sl hw c' hc) (arena_lt hw)
  have hi : i' < m[c'].l.length := by omega
  obtain ⟨k2, _, k5, k6, k7, _⟩ := arena_facts hf hw c' i' hc hi
  refine at_bad5 a _ c' i' _ g _ _ w (by omega) hi hcap (arena_made hw) k2 (arena_lt hw) k5 k6 k7 ?_
  have hb : blkAt m c' i' = some m[c'].l[i'] := by simp [blkAt, hc, hi]
  simp only [right, hb, Bool.and_eq_false_iff, bne_eq_false_iff_eq, beq_eq_false_iff_ne] at hr
  exact hr

theorem arena_set {w : World} {a : Nat} {m : List Cls} {F : Asr} (hw : Holds w (arenaA a m * F)) (c i j : Nat) (hc : c < m.length) (hi : i < m[c].l.length) (hj : j < 3) (v : Value) (b : Blk)
    (he : b.enc = (m[c].l[i].enc).set j v) (hb : bytesA b = bytesA m[c].l[i]) : Holds (w.setCell ⟨m[c].blk, i * 3 + j, none⟩ v) (arenaA a (setBlk m c i b) * F) := by
  have hm : setBlk m c i b = m.set c ⟨m[c].blk, m[c].l.set i b⟩ := by unfold setBlk; rw [modify_set _ _ _ (by simpa using hc)]; simp
  have hc' : c < (setBlk m c i b).length := by rw [hm]; simpa using hc
  have h4 := hw.eqv (arena_cls c hc)
  unfold clsA at h4
  rw [star_assoc] at h4
  have h5 := h4.store (i * 3 + j) v
  rw [flat_set enc_len i j hi hj v b he] at h5
  refine h5.eqv ?_
  rw [arena_cls c hc']
  have e1 : (setBlk m c i b)[c] = ⟨m[c].blk, m[c].l.set i b⟩ := by simp [hm]
  have e2 : (setBlk m c i b).eraseIdx c = m.eraseIdx c := by rw [hm, List.eraseIdx_set_eq]
  have e3 : (setBlk m c i b).map Cls.sl = m.map Cls.sl := by
    rw [hm, List.map_set]
    have : Cls.sl ⟨m[c].blk, m[c].l.set i b⟩ = (m.map Cls.sl)[c]'(by simpa using hc) := by simp [Cls.sl]
    rw [this, List.set_getElem_self]
  rw [e1, e2, e3]
  unfold clsA
  simp only
  rw [big_set _ _ _ _ hi, hb, ← big_at _ _ _ hi]
  ac_rfl
#print axioms arena_set
end Go.Proofs.Ytefcinifaaablaa.Slab
