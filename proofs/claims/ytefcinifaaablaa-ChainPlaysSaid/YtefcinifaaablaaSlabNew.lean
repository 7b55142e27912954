/-
  Layer 15: New, Live.
-/
import Derived.Test.YtefcinifaaablaaSlabAlloc
namespace Go.Proofs.Ytefcinifaaablaa.Slab
open Go.RowKit Go.Sep
set_option maxRecDepth 100000
set_option linter.unusedVariables false
set_option linter.unusedSimpArgs false

def blk0 : Blk := ⟨0, false, [], 0, 0⟩
theorem made_flat (n : Nat) : madeCells #[.slice none 0 0, .int .i64 0, .int .i64 0] (n * 3) = flat Blk.enc (List.replicate n blk0) := by
  apply Array.ext_getElem?
  intro t
  by_cases h : t < n * 3
  · have e : t = t / 3 * 3 + t % 3 := by omega
    rw [e, flat_get enc_len (t / 3) (t % 3) (by simp; omega) (by omega), ← e]
    simp only [madeCells, List.getElem_replicate]
    rw [Array.getElem?_map, Array.getElem?_range]
    simp only [h, if_true, Option.map_some]
    have : t % 3 = 0 ∨ t % 3 = 1 ∨ t % 3 = 2 := by omega
    rcases this with e | e | e <;> simp [e, Blk.enc, Blk.sl, blk0]
  · rw [Array.getElem?_eq_none (by simp [madeCells]; omega), Array.getElem?_eq_none (by rw [flat_size enc_len]; simp; omega)]
theorem run_make_blk (n : Nat) (hn : n ≤ 4096) (w : World) : (Instr.makeSlice 96 (.int .i64 n) (.int .i64 n)).run Try.prog w = .ok (.slice (some ⟨w.heap.size, 0, none⟩) n n) (w.alloc (.cells (flat Blk.enc (List.replicate n blk0)) 110)) := by
  obtain ⟨i, hi, hz, hs, hb⟩ := info_parts (P := Try.prog) (e := 110) (z := .agg #[.slice none 0 0, .int .i64 0, .int .i64 0]) (size := 3) (bytes := 40) (by kernel_rfl)
  have h := run_make (P := Try.prog) w 96 110 i _ Try.underlying96 hi hz .i64 .i64 n n (by omega) (by omega) (by rw [hb]; omega) (by omega)
  rw [h]
  simp only [Int.toNat_natCast, hs, Value.cells, made_flat]

theorem big_bytes0 (n : Nat) : big bytesA (List.replicate n blk0) = emp := big_emp fun x hx => by rw [(List.mem_replicate.1 hx).2]; rfl

def X4 (x0 x1 x2 x3 : Int) (k : Nat) : Int := if k = 0 then x0 else if k = 1 then x1 else if k = 2 then x2 else x3
theorem run_index4 (x0 x1 x2 x3 : Int) (k : Nat) (hk : k < 4) (w : World) : (Instr.index 26 (.agg #[.int .i64 x0, .int .i64 x1, .int .i64 x2, .int .i64 x3]) (.int .i64 k)).run Try.prog w = .ok (.int .i64 (X4 x0 x1 x2 x3 k)) w := by
  have i0 : (Instr.index 26 (.agg #[.int .i64 x0, .int .i64 x1, .int .i64 x2, .int .i64 x3]) (.int .i64 0)).run Try.prog w = .ok (.int .i64 x0) w := by kernel_rfl
  have i1 : (Instr.index 26 (.agg #[.int .i64 x0, .int .i64 x1, .int .i64 x2, .int .i64 x3]) (.int .i64 1)).run Try.prog w = .ok (.int .i64 x1) w := by kernel_rfl
  have i2 : (Instr.index 26 (.agg #[.int .i64 x0, .int .i64 x1, .int .i64 x2, .int .i64 x3]) (.int .i64 2)).run Try.prog w = .ok (.int .i64 x2) w := by kernel_rfl
  have i3 : (Instr.index 26 (.agg #[.int .i64 x0, .int .i64 x1, .int .i64 x2, .int .i64 x3]) (.int .i64 3)).run Try.prog w = .ok (.int .i64 x3) w := by kernel_rfl
  have : k = 0 ∨ k = 1 ∨ k = 2 ∨ k = 3 := by omega
  rcases this with rfl | rfl | rfl | rfl
  · exact i0
  · exact i1
  · exact i2
  · exact i3

open Classical in
noncomputable def newBad (X : Nat → Int) : Int := if ∃ j, j < 4 ∧ X j < 0 then 2 else if ∃ j, j < 4 ∧ 4096 < X j then 3 else 0
open Classical in
noncomputable def badTo (X : Nat → Int) (k : Nat) : Int := if ∃ j, j < k ∧ 4096 < X j then 3 else 0

theorem badTo_succ_yes {X : Nat → Int} {k : Nat} (h : 4096 < X k) : badTo X (k + 1) = 3 := by unfold badTo; rw [if_pos ⟨k, by omega, h⟩]
theorem badTo_succ_no {X : Nat → Int} {k : Nat} (h : ¬ 4096 < X k) : badTo X (k + 1) = badTo X k := by
  unfold badTo
  have : (∃ j, j < k + 1 ∧ 4096 < X j) ↔ (∃ j, j < k ∧ 4096 < X j) := by
    constructor
    · rintro ⟨j, h1, h2⟩
      by_cases e : j = k
      · subst e; exact absurd h2 h
      · exact ⟨j, by omega, h2⟩
    · rintro ⟨j, h1, h2⟩; exact ⟨j, by omega, h2⟩
  simp only [this]

set_option maxHeartbeats 1000000 in
theorem new_bad (x0 x1 x2 x3 : Int) (w : World) (hb : newBad (X4 x0 x1 x2 x3) ≠ 0) :
    Calls Try.prog 10 #[.agg #[.int .i64 x0, .int .i64 x1, .int .i64 x2, .int .i64 x3]] w fun e w' => e = .returned (.tuple #[.pointer none, .int .i64 (newBad (X4 x0 x1 x2 x3))]) ∧ Below w.heap.size w w' := by
  have hi := fun k hk w => run_index4 x0 x1 x2 x3 k hk w
  generalize hX : X4 x0 x1 x2 x3 = X at *
  clear hX
  have HI := Lib.hid hi
  have HB := Lib.hid hb
  clear hi hb
  go_enter Try.func10, Try.ntmps10
  go_wp2
  go_loop [13, 5] (fun i b => ∃ k : Nat, k ≤ 4 ∧ i = .int .i64 k ∧ b = .int .i64 (badTo X k) ∧ Hid (∀ j, j < k → 0 ≤ X j)) (fun i _ => 4 - (intOf i).toNat)
  case atStart => exact ⟨0, Nat.zero_le _, rfl, rfl, fun j h => by omega⟩
  case round =>
    obtain ⟨k, hk, rfl, rfl, hno⟩ := hrel
    by_cases hlt : k < 4
    · have hidx := HI.out k hlt
      by_cases hneg : X k < 0
      · have hg1 : decide (X k < 0) = true := by simpa using hneg
        have he : Hid (newBad X = 2) := by show newBad X = 2; unfold newBad; rw [if_pos ⟨k, hlt, hneg⟩]
        clear hneg
        go_wp2
        go_ret2
        exact ⟨by rw [he.out]; rfl, by repeat (first | exact Below.refl _ _ | refine Below.alloc ?_ (by simp) _)⟩
      · have hg1 : decide (X k < 0) = false := by simpa using hneg
        have hno' : Hid (∀ j, j < k + 1 → 0 ≤ X j) := by
          intro j h
          by_cases e : j = k
          · subst e; omega
          · exact hno.out j (by omega)
        clear hneg
        by_cases hbig : 4096 < X k
        · have hg2 : decide (4096 < X k) = true := by simpa using hbig
          have he : Hid (badTo X (k + 1) = 3) := badTo_succ_yes hbig
          clear hbig
          go_wp2
          go_round
          case rel => exact ⟨k + 1, by omega, by go_num, by rw [he.out], hno'⟩
          case measure => simp [intOf]; omega
        · have hg2 : decide (4096 < X k) = false := by simpa using hbig
          have he : Hid (badTo X (k + 1) = badTo X k) := badTo_succ_no hbig
          clear hbig
          go_wp2
          go_round
          case rel => exact ⟨k + 1, by omega, by go_num, by rw [he.out], hno'⟩
          case measure => simp [intOf]; omega
    · have hb' : newBad X = 3 ∧ badTo X k = 3 := by
        obtain rfl : k = 4 := by omega
        have h1 : ¬ ∃ j, j < 4 ∧ X j < 0 := by rintro ⟨j, h, h'⟩; have := hno.out j h; omega
        have h2 := HB.out
        unfold newBad at h2 ⊢
        unfold badTo
        rw [if_neg h1] at h2 ⊢
        by_cases h3 : ∃ j, j < 4 ∧ 4096 < X j
        · simp [h3]
        · simp [h3] at h2
      obtain ⟨e1, e2⟩ := hb'
      have E1 := Lib.hid e1
      rw [e2]
      clear e1 e2
      go_wp2
      go_ret2
      exact ⟨by rw [E1.out]; rfl, by repeat (first | exact Below.refl _ _ | refine Below.alloc ?_ (by simp) _)⟩

def partA (a : Nat) (m : List Cls) : Asr := pts a (.cells (Value.bool true :: (m.map Cls.sl ++ List.replicate (4 - m.length) (.slice none 0 0))).toArray 99 (0, 0)) * big clsA m
theorem partA_full {a : Nat} {m : List Cls} (h : m.length = 4) : partA a m = arenaA a m := by simp [partA, arenaA, h]
theorem partA_step {w : World} {a n : Nat} {m : List Cls} {F : Asr} (h : Holds w (partA a m * F)) (hm : m.length < 4) :
    Holds ((w.setCell ⟨a, 1 + m.length, none⟩ (.slice (some ⟨w.heap.size, 0, none⟩) n n)).alloc (.cells (flat Blk.enc (List.replicate n blk0)) 110)) (partA a (m ++ [(⟨w.heap.size, List.replicate n blk0⟩ : Cls)]) * F) := by
  unfold partA at h
  rw [star_assoc] at h
  have h1 := (h.store (1 + m.length) (.slice (some ⟨w.heap.size, 0, none⟩) n n)).alloc (.cells (flat Blk.enc (List.replicate n blk0)) 110)
  simp only [World.size_setCell] at h1
  refine h1.eqv ?_
  unfold partA
  rw [big_append, big_cons, big_nil, star_emp]
  have e : (Value.bool true :: (m.map Cls.sl ++ List.replicate (4 - m.length) (.slice none 0 0))).toArray.setIfInBounds (1 + m.length) (.slice (some ⟨w.heap.size, 0, none⟩) n n) =
      (Value.bool true :: ((m ++ [(⟨w.heap.size, List.replicate n blk0⟩ : Cls)]).map Cls.sl ++ List.replicate (4 - (m ++ [(⟨w.heap.size, List.replicate n blk0⟩ : Cls)]).length) (.slice none 0 0))).toArray := by
    apply Array.ext'
    rw [Array.toList_setIfInBounds, Nat.add_comm 1, List.set_cons_succ]
    rw [List.set_append_right _ _ (by simp)]
    simp only [List.length_map, Nat.sub_self, List.map_append, List.length_append, List.length_cons, List.length_nil, List.map_cons, List.map_nil, List.append_assoc]
    rw [show 4 - m.length = (4 - (m.length + (0 + 1))) + 1 by omega, List.replicate_succ]
    simp [Cls.sl]
  rw [e]
  unfold clsA
  simp only
  rw [big_bytes0, star_emp]
  ac_rfl
theorem partA_lt {w : World} {a : Nat} {m : List Cls} {F : Asr} (h : Holds w (partA a m * F)) : a < w.heap.size := by unfold partA at h; rw [star_assoc] at h; exact h.lt
theorem partA_cell {w : World} {a : Nat} {m : List Cls} {F : Asr} (h : Holds w (partA a m * F)) (hm : m.length < 4) : w.cell? ⟨a, 1 + m.length, none⟩ = some (.slice none 0 0) ∧ w.frozen? ⟨a, 1 + m.length, none⟩ = false := by
  unfold partA at h; rw [star_assoc] at h
  refine ⟨?_, h.frozen _⟩
  rw [h.cell, List.getElem?_toArray, Nat.add_comm 1, List.getElem?_cons_succ, List.getElem?_append_right (by simp), List.length_map, Nat.sub_self, List.getElem?_replicate, if_pos (by omega)]

def Fresh (X : Nat → Int) (m : List Cls) : Prop := ∀ j (h : j < m.length), m[j].l = List.replicate (X j).toNat blk0
theorem Fresh.step {X : Nat → Int} {m : List Cls} {b : Nat} (h : Fresh X m) : Fresh X (m ++ [⟨b, List.replicate (X m.length).toNat blk0⟩]) := by
  intro j hj
  by_cases e : j = m.length
  · subst e; simp
  · have : j < m.length := by simp at hj; omega
    rw [List.getElem_append_left this]; exact h j this

theorem newBad_zero {X : Nat → Int} (h : newBad X = 0) : ∀ j, j < 4 → 0 ≤ X j ∧ X j ≤ 4096 := by
  intro j hj
  unfold newBad at h
  split at h
  · simp at h
  · rename_i h1
    split at h
    · simp at h
    · rename_i h2
      constructor
      · apply Int.not_lt.1; intro hh; exact h1 ⟨j, hj, hh⟩
      · apply Int.not_lt.1; intro hh; exact h2 ⟨j, hj, hh⟩

def NewOk (X : Nat → Int) (F : Asr) (w : World) (e : Ending) (w' : World) : Prop :=
  ∃ a m, e = .returned (.tuple #[.pointer (some ⟨a, 0, none⟩), .int .i64 0]) ∧ m.length = 4 ∧ Fresh X m ∧ Holds w' (arenaA a m * F) ∧ Sm w w'

set_option maxHeartbeats 1000000 in
theorem new_ok (x0 x1 x2 x3 : Int) (F : Asr) (w : World) (hw : Holds w F) (hb : newBad (X4 x0 x1 x2 x3) = 0) :
    Calls Try.prog 10 #[.agg #[.int .i64 x0, .int .i64 x1, .int .i64 x2, .int .i64 x3]] w (NewOk (X4 x0 x1 x2 x3) F w) := by
  have hi := fun k hk w => run_index4 x0 x1 x2 x3 k hk w
  generalize hX : X4 x0 x1 x2 x3 = X at *
  clear hX
  have HI := Lib.hid hi
  have HB := Lib.hid (newBad_zero hb)
  have HW := Lib.hid hw
  clear hi hb hw
  go_enter Try.func10, Try.ntmps10
  go_wp2
  go_loop [13, 5] (fun i b => ∃ k : Nat, k ≤ 4 ∧ i = .int .i64 k ∧ b = .int .i64 0) (fun i _ => 4 - (intOf i).toNat)
  case atStart => exact ⟨0, Nat.zero_le _, rfl, rfl⟩
  case round =>
    obtain ⟨k, hk, rfl, rfl⟩ := hrel
    by_cases hlt : k < 4
    · have hidx := HI.out k hlt
      obtain ⟨b1, b2⟩ := HB.out k hlt
      have hg1 : decide (X k < 0) = false := by simp; omega
      have hg2 : decide (4096 < X k) = false := by simp; omega
      clear b1 b2
      go_wp2
      go_round
      case rel => exact ⟨k + 1, by omega, by go_num, rfl⟩
      case measure => simp [intOf]; omega
    · go_wp2
      have hst : Hid (Holds ((w.alloc (.cells #[.int .i64 x0, .int .i64 x1, .int .i64 x2, .int .i64 x3] 26)).alloc (.cells #[.bool true, .slice none 0 0, .slice none 0 0, .slice none 0 0, .slice none 0 0] 99)) (partA (w.heap.size + 1) [] * F)) := by
        have := (HW.out.alloc (.cells #[.int .i64 x0, .int .i64 x1, .int .i64 x2, .int .i64 x3] 26)).right.alloc (.cells #[.bool true, .slice none 0 0, .slice none 0 0, .slice none 0 0, .slice none 0 0] 99)
        refine this.eqv ?_
        unfold partA; rw [big_nil, star_emp]; simp [List.replicate]
      go_loopw [27] (fun i wr => ∃ (k : Nat) (m : List Cls), k ≤ 4 ∧ i = .int .i64 k ∧ Hid (m.length = k) ∧ Hid (Fresh X m) ∧ Hid (Holds wr (partA (w.heap.size + 1) m * F)) ∧ Hid (Sm w wr)) (fun i _ => 4 - (intOf i).toNat)
      case atStart => exact ⟨0, [], Nat.zero_le _, rfl, rfl, (fun j h => by simp at h), hst, ((Sm.refl w).alloc _).alloc _⟩
      case round =>
        obtain ⟨k, m, hk, rfl, hm, hfr, hH, hS⟩ := hrel
        by_cases hlt : k < 4
        · obtain ⟨b1, b2⟩ := HB.out k hlt
          have hidx : ∀ (w : World), (Instr.index 26 (.agg #[.int .i64 x0, .int .i64 x1, .int .i64 x2, .int .i64 x3]) (.int .i64 k)).run Try.prog w = .ok (.int .i64 ((X k).toNat : Nat)) w := by
            intro w; rw [HI.out k hlt w, show ((X k).toNat : Int) = X k by omega]
          have hmk := run_make_blk (X k).toNat (by omega)
          obtain ⟨c1, c2⟩ := partA_cell hH.out (by have := hm.out; omega)
          have c3 := partA_lt hH.out
          have nx : Hid (Holds _ _) := partA_step (n := (X k).toNat) hH.out (by have := hm.out; omega)
          have nf : Hid (Fresh X (m ++ [⟨wr.heap.size, List.replicate (X k).toNat blk0⟩])) := by have := hfr.out.step (b := wr.heap.size); rw [hm.out] at this; exact this
          rw [hm.out] at c1 c2 nx
          have g7 : (0 : Int) ≤ (k : Int) := by omega
          have g8 : (k : Int) < 4 := by omega
          generalize (X k).toNat = n at *
          clear b1 b2 hst
          go_wp2
          go_region
          go_wp2
          go_roundw
          case rel => exact ⟨k + 1, m ++ [⟨wr.heap.size, List.replicate n blk0⟩], by omega, by go_num, by show _ = _; simp [hm.out], nf, Holds.drew nx.out, ((hS.out.setCell _ _).alloc _).drew⟩
          case measure => simp [intOf]; omega
        · have e4 : Hid (m.length = 4) := by have := hm.out; show _ = _; omega
          go_wp2
          go_ret2
          exact ⟨w.heap.size + 1, m, rfl, e4.out, hfr.out, by rw [← partA_full e4.out]; exact hH.out, hS.out⟩
end Go.Proofs.Ytefcinifaaablaa.Slab
