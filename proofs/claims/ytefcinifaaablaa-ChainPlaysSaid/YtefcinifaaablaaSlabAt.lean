/-
  Layer 15: 'at', Hold, Drop, Held.
-/
import Derived.Test.YtefcinifaaablaaSlab
namespace Go.Proofs.Ytefcinifaaablaa.Slab
open Go.RowKit Go.Sep
set_option maxRecDepth 100000
set_option linter.unusedVariables false
set_option linter.unusedSimpArgs false

theorem arena_open {w : World} {a : Nat} {m : List Cls} {F : Asr} (h : Holds w (arenaA a m * F)) : Holds w (pts a (.cells (Value.bool true :: m.map Cls.sl).toArray 99 (0, 0)) * (big clsA m * F)) := by
  unfold arenaA at h; rwa [star_assoc] at h
theorem arena_made {w : World} {a : Nat} {m : List Cls} {F : Asr} (h : Holds w (arenaA a m * F)) : w.cell? ⟨a, 0, none⟩ = some (.bool true) := by rw [(arena_open h).cell]; rfl
theorem arena_sl {w : World} {a : Nat} {m : List Cls} {F : Asr} (h : Holds w (arenaA a m * F)) (c : Nat) (hc : c < m.length) : w.cell? ⟨a, 1 + c, none⟩ = some (m[c].sl) := by
  rw [(arena_open h).cell]; simp [Nat.add_comm 1 c, hc]
theorem arena_lt {w : World} {a : Nat} {m : List Cls} {F : Asr} (h : Holds w (arenaA a m * F)) : a < w.heap.size := (arena_open h).lt
theorem arena_cls {a : Nat} {m : List Cls} {F : Asr} (c : Nat) (hc : c < m.length) : arenaA a m * F = clsA m[c] * (pts a (.cells (Value.bool true :: m.map Cls.sl).toArray 99 (0, 0)) * (big clsA (m.eraseIdx c) * F)) := by
  unfold arenaA; rw [big_at clsA m c hc]; ac_rfl

set_option maxHeartbeats 400000 in
theorem at_core (a B c i len : Nat) (gen held : Int) (w : World) (hc : c < 4) (hi : i < len) (hl : len ≤ 4096)
    (h1 : w.cell? ⟨a, 0, none⟩ = some (.bool true)) (h2 : w.cell? ⟨a, 1 + c, none⟩ = some (.slice (some ⟨B, 0, none⟩) len len)) (h3 : a < w.heap.size)
    (h5 : w.cell? ⟨B, i * 3 + 1, none⟩ = some (.int .i64 gen)) (h6 : w.cell? ⟨B, i * 3 + 2, none⟩ = some (.int .i64 held)) (h7 : B < w.heap.size) (hh : (held == 0) = false) :
    Calls Try.prog 73 #[.pointer (some ⟨a, 0, none⟩), .agg #[.int .i64 c, .int .i64 i, .int .i64 gen]] w fun e w' => e = .returned (.tuple #[.pointer (some ⟨B, i * 3, none⟩), .int .i64 0]) ∧ Below w.heap.size w w' := by
  go_enter Try.func73, Try.ntmps73
  go_wp2_with (go_at_call 49; refine (none_calls _ _ ?_).mono ?_; go_simp; rintro e w' ⟨rfl, rfl⟩)
  have g1 : decide ((len : Int) ≤ (i : Int)) = false := by simp; omega
  have g2 : decide (len ≤ i) = false := by simp; omega
  have g3 : decide (4 ≤ c) = false := by simp; omega
  have g4 : decide ((4 : Int) ≤ (c : Int)) = false := by simp; omega
  have g5 : decide ((c : Int) < 0) = false := by simp
  have g6 : decide ((i : Int) < 0) = false := by simp
  have g7 : (0 : Int) ≤ (c : Int) := by omega
  have g8 : (c : Int) < 4 := by omega
  have g9 : (0 : Int) ≤ (i : Int) := by omega
  have g10 : (i : Int) < (len : Int) := by omega
  go_quiet (fail)
  go_wp2
  go_quiet (fail)
  go_wp2
  go_region
  go_wp2
  go_ret2
  exact ⟨rfl, by repeat (first | exact Below.refl _ _ | refine Below.drew ?_ | refine below_drewN ?_ _ | refine Below.alloc ?_ (by simp) _)⟩

set_option maxHeartbeats 400000 in
theorem at_bad1 (a : Nat) (c i gen : Int) (w : World) (hc : c < 0)
    (h1 : w.cell? ⟨a, 0, none⟩ = some (.bool true)) (h3 : a < w.heap.size) :
    Calls Try.prog 73 #[.pointer (some ⟨a, 0, none⟩), .agg #[.int .i64 c, .int .i64 i, .int .i64 gen]] w fun e w' => e = .returned (.tuple #[.pointer none, .int .i64 15]) ∧ Below w.heap.size w w' := by
  go_enter Try.func73, Try.ntmps73
  go_wp2_with (go_at_call 49; refine (none_calls _ _ ?_).mono ?_; go_simp; rintro e w' ⟨rfl, rfl⟩)
  have g5 : decide (c < 0) = true := by simp; omega
  go_quiet (fail)
  go_wp2
  go_ret2
  exact ⟨rfl, by repeat (first | exact Below.refl _ _ | refine Below.drew ?_ | refine below_drewN ?_ _ | refine Below.alloc ?_ (by simp) _)⟩

set_option maxHeartbeats 400000 in
theorem at_bad2 (a : Nat) (c i gen : Int) (w : World) (hc : 4 ≤ c)
    (h1 : w.cell? ⟨a, 0, none⟩ = some (.bool true)) (h3 : a < w.heap.size) :
    Calls Try.prog 73 #[.pointer (some ⟨a, 0, none⟩), .agg #[.int .i64 c, .int .i64 i, .int .i64 gen]] w fun e w' => e = .returned (.tuple #[.pointer none, .int .i64 15]) ∧ Below w.heap.size w w' := by
  go_enter Try.func73, Try.ntmps73
  go_wp2_with (go_at_call 49; refine (none_calls _ _ ?_).mono ?_; go_simp; rintro e w' ⟨rfl, rfl⟩)
  have g5 : decide (c < 0) = false := by simp; omega
  have g4 : decide (4 ≤ c) = true := by simp; omega
  go_quiet (fail)
  go_wp2
  go_ret2
  exact ⟨rfl, by repeat (first | exact Below.refl _ _ | refine Below.drew ?_ | refine below_drewN ?_ _ | refine Below.alloc ?_ (by simp) _)⟩

set_option maxHeartbeats 400000 in
theorem at_bad3 (a : Nat) (c i gen : Int) (w : World) (h0 : 0 ≤ c) (hc : c < 4) (hi : i < 0)
    (h1 : w.cell? ⟨a, 0, none⟩ = some (.bool true)) (h3 : a < w.heap.size) :
    Calls Try.prog 73 #[.pointer (some ⟨a, 0, none⟩), .agg #[.int .i64 c, .int .i64 i, .int .i64 gen]] w fun e w' => e = .returned (.tuple #[.pointer none, .int .i64 15]) ∧ Below w.heap.size w w' := by
  go_enter Try.func73, Try.ntmps73
  go_wp2_with (go_at_call 49; refine (none_calls _ _ ?_).mono ?_; go_simp; rintro e w' ⟨rfl, rfl⟩)
  have g5 : decide (c < 0) = false := by simp; omega
  have g4 : decide (4 ≤ c) = false := by simp; omega
  have g6 : decide (i < 0) = true := by simp; omega
  go_quiet (fail)
  go_wp2
  go_ret2
  exact ⟨rfl, by repeat (first | exact Below.refl _ _ | refine Below.drew ?_ | refine below_drewN ?_ _ | refine Below.alloc ?_ (by simp) _)⟩

set_option maxHeartbeats 400000 in
theorem at_bad4 (a B c len : Nat) (i gen : Int) (w : World) (hc : c < 4) (hi : (len : Int) ≤ i) (hl : len ≤ 4096)
    (h1 : w.cell? ⟨a, 0, none⟩ = some (.bool true)) (h2 : w.cell? ⟨a, 1 + c, none⟩ = some (.slice (some ⟨B, 0, none⟩) len len)) (h3 : a < w.heap.size) :
    Calls Try.prog 73 #[.pointer (some ⟨a, 0, none⟩), .agg #[.int .i64 c, .int .i64 i, .int .i64 gen]] w fun e w' => e = .returned (.tuple #[.pointer none, .int .i64 15]) ∧ Below w.heap.size w w' := by
  go_enter Try.func73, Try.ntmps73
  go_wp2_with (go_at_call 49; refine (none_calls _ _ ?_).mono ?_; go_simp; rintro e w' ⟨rfl, rfl⟩)
  have g1 : decide ((len : Int) ≤ i) = true := by simp; omega
  have g3 : decide (4 ≤ c) = false := by simp; omega
  have g4 : decide ((4 : Int) ≤ (c : Int)) = false := by simp; omega
  have g5 : decide ((c : Int) < 0) = false := by simp
  have g6 : decide (i < 0) = false := by simp; omega
  have g7 : (0 : Int) ≤ (c : Int) := by omega
  have g8 : (c : Int) < 4 := by omega
  go_quiet (fail)
  go_wp2
  go_ret2
  exact ⟨rfl, by repeat (first | exact Below.refl _ _ | refine Below.drew ?_ | refine below_drewN ?_ _ | refine Below.alloc ?_ (by simp) _)⟩

set_option maxHeartbeats 400000 in
theorem at_bad5 (a B c i len : Nat) (gen g0 held : Int) (w : World) (hc : c < 4) (hi : i < len) (hl : len ≤ 4096)
    (h1 : w.cell? ⟨a, 0, none⟩ = some (.bool true)) (h2 : w.cell? ⟨a, 1 + c, none⟩ = some (.slice (some ⟨B, 0, none⟩) len len)) (h3 : a < w.heap.size)
    (h5 : w.cell? ⟨B, i * 3 + 1, none⟩ = some (.int .i64 g0)) (h6 : w.cell? ⟨B, i * 3 + 2, none⟩ = some (.int .i64 held)) (h7 : B < w.heap.size) (hh : held = 0 ∨ g0 ≠ gen) :
    Calls Try.prog 73 #[.pointer (some ⟨a, 0, none⟩), .agg #[.int .i64 c, .int .i64 i, .int .i64 gen]] w fun e w' => e = .returned (.tuple #[.pointer none, .int .i64 15]) ∧ Below w.heap.size w w' := by
  have core : ∀ x : Bool, (held == 0) = x → (x = false → (g0 == gen) = false) → Calls Try.prog 73 #[.pointer (some ⟨a, 0, none⟩), .agg #[.int .i64 c, .int .i64 i, .int .i64 gen]] w fun e w' => e = .returned (.tuple #[.pointer none, .int .i64 15]) ∧ Below w.heap.size w w' := by
    intro x hx hg
    have g1 : decide ((len : Int) ≤ (i : Int)) = false := by simp; omega
    have g2 : decide (len ≤ i) = false := by simp; omega
    have g3 : decide (4 ≤ c) = false := by simp; omega
    have g4 : decide ((4 : Int) ≤ (c : Int)) = false := by simp; omega
    have g5 : decide ((c : Int) < 0) = false := by simp
    have g6 : decide ((i : Int) < 0) = false := by simp
    have g7 : (0 : Int) ≤ (c : Int) := by omega
    have g8 : (c : Int) < 4 := by omega
    have g9 : (0 : Int) ≤ (i : Int) := by omega
    have g10 : (i : Int) < (len : Int) := by omega
    clear hh
    cases x with
    | true =>
      clear hg
      go_enter Try.func73, Try.ntmps73
      go_wp2_with (go_at_call 49; refine (none_calls _ _ ?_).mono ?_; go_simp; rintro e w' ⟨rfl, rfl⟩)
      go_quiet (fail)
      go_wp2
      go_quiet (fail)
      go_wp2
      go_region
      go_wp2
      go_ret2
      exact ⟨rfl, by repeat (first | exact Below.refl _ _ | refine Below.drew ?_ | refine below_drewN ?_ _ | refine Below.alloc ?_ (by simp) _)⟩
    | false =>
      replace hg := hg rfl
      go_enter Try.func73, Try.ntmps73
      go_wp2_with (go_at_call 49; refine (none_calls _ _ ?_).mono ?_; go_simp; rintro e w' ⟨rfl, rfl⟩)
      go_quiet (fail)
      go_wp2
      go_quiet (fail)
      go_wp2
      go_region
      go_wp2
      go_goals
      go_ret2
      exact ⟨rfl, by repeat (first | exact Below.refl _ _ | refine Below.drew ?_ | refine below_drewN ?_ _ | refine Below.alloc ?_ (by simp) _)⟩
  rcases hh with rfl | hh
  · exact core true rfl (by simp)
  · exact core (held == 0) rfl fun _ => by simpa using hh
end Go.Proofs.Ytefcinifaaablaa.Slab
