/-
  Layer 15: the arena in memory, and what its functions do to it.
-/
import Derived.Test.YtefcinifaaablaaRows
import Derived.Test.YtefcinifaaablaaLib
import Derived.Deep.QuietTactic
import Derived.BigQuiet
import Derived.RegionTactic
import Derived.LoopTactic
import Derived.Outline
namespace Go.Proofs.Ytefcinifaaablaa.Slab
open Go.RowKit Go.Sep
set_option maxRecDepth 100000
set_option linter.unusedVariables false
set_option linter.unusedSimpArgs false

structure Blk where
  loc : Nat
  made : Bool
  bytes : List Int
  gen : Int
  held : Int
def Blk.sl (b : Blk) : Value := if b.made then .slice (some ⟨b.loc, 0, none⟩) b.bytes.length b.bytes.length else .slice none 0 0
def Blk.enc (b : Blk) : List Value := [b.sl, .int .i64 b.gen, .int .i64 b.held]
def bytesA (b : Blk) : Asr := if b.made then pts b.loc (.cells (b.bytes.map (Value.int .u8)).toArray 5 (0, 0)) else emp
structure Cls where
  blk : Nat
  l : List Blk
def Cls.sl (c : Cls) : Value := .slice (some ⟨c.blk, 0, none⟩) c.l.length c.l.length
def clsA (c : Cls) : Asr := pts c.blk (.cells (flat Blk.enc c.l) 110 (0, 0)) * big bytesA c.l
def arenaA (a : Nat) (m : List Cls) : Asr := pts a (.cells (Value.bool true :: m.map Cls.sl).toArray 99 (0, 0)) * big clsA m

theorem enc_len (b : Blk) : b.enc.length = 3 := rfl

/-- the closure of Alloc: is the block free -/
theorem free_calls (b off : Nat) (h : Int) (w : World) (hc : w.cell? ⟨b, off + 2, none⟩ = some (.int .i64 h)) :
    Calls Try.prog 90 #[.pointer (some ⟨b, off, none⟩)] w fun e w' => e = .returned (.bool (h == 0)) ∧ w = w' := by
  go_enter Try.func90, Try.ntmps90
  go_wp2
  go_ret
  exact ⟨rfl, rfl⟩

theorem none_calls (a : Nat) (w : World) (hc : w.cell? ⟨a, 0, none⟩ = some (.bool true)) :
    Calls Try.prog 49 #[.pointer (some ⟨a, 0, none⟩)] w fun e w' => e = .returned (.bool false) ∧ w = w' := by
  go_enter Try.func49, Try.ntmps49
  go_wp2
  go_ret
  exact ⟨rfl, rfl⟩

theorem cells_lt {w : World} {c : Cls} {F : Asr} (h : Holds w (clsA c * F)) (i : Nat) (hi : i < c.l.length) (j : Nat) (hj : j < 3) :
    w.cell? ⟨c.blk, i * 3 + j, none⟩ = (c.l[i].enc)[j]? := by
  unfold clsA at h
  rw [star_assoc] at h
  rw [h.cell]
  exact flat_get enc_len i j hi hj

def freeAt (l : List Blk) : Nat := l.findIdx (fun b => b.held == 0)

set_option maxHeartbeats 400000 in
theorem first_calls (c : Cls) (F : Asr) (w : World) (hl : c.l.length ≤ 4096) (hw : Holds w (clsA c * F)) :
    Calls Try.prog 89 #[c.sl, .func (.func 90) #[] #[]] w fun e w' => e = .returned (.int .i64 (freeAt c.l)) ∧ w = w' := by
  unfold Cls.sl
  go_enter Try.func89, Try.ntmps89
  go_wp2_with fail
  go_loop [8] (fun i => ∃ k : Nat, k ≤ c.l.length ∧ i = .int .i64 k ∧ Hid (∀ j, (h : j < k) → (h' : j < c.l.length) → c.l[j].held ≠ 0)) (fun i => c.l.length - (intOf i).toNat)
  case atStart => exact ⟨0, Nat.zero_le _, rfl, fun j h => by omega⟩
  case round =>
    obtain ⟨k, hk, rfl, hno⟩ := hrel
    by_cases hlt : k < c.l.length
    · have hcell : w.cell? ⟨c.blk, k * 3 + 2, none⟩ = some (.int .i64 c.l[k].held) := cells_lt hw k hlt 2 (by omega)
      by_cases hh : c.l[k].held = 0
      · have hb : (c.l[k].held == 0) = true := by simpa using hh
        have he : Hid (freeAt c.l = k) := by
          refine List.findIdx_eq hlt |>.2 ⟨hb, fun j hj => ?_⟩
          have := hno.out j hj (by omega)
          simpa using this
        clear hh
        go_wp2_with (go_at_call 90; refine (free_calls _ _ _ _ hcell).mono ?_; rintro e w' ⟨rfl, rfl⟩)
        go_ret
        exact ⟨by rw [he.out]; rfl, rfl⟩
      · have hb : (c.l[k].held == 0) = false := by simpa using hh
        have hno' : Hid (∀ j, (h : j < k + 1) → (h' : j < c.l.length) → c.l[j].held ≠ 0) := by
          intro j h h'
          by_cases e : j = k
          · subst e; exact hh
          · exact hno.out j (by omega) h'
        clear hh hno
        go_wp2_with (go_at_call 90; refine (free_calls _ _ _ _ hcell).mono ?_; rintro e w' ⟨rfl, rfl⟩)
        go_round
        case rel => exact ⟨k + 1, by omega, by go_num, hno'⟩
        case measure => simp [intOf]; omega
    · have he : Hid (freeAt c.l = c.l.length) := by
        refine List.findIdx_eq_length.2 fun b hb => ?_
        obtain ⟨j, hj, rfl⟩ := List.getElem_of_mem hb
        have := hno.out j (by omega) hj
        simpa using this
      go_wp2
      go_ret
      exact ⟨by rw [he.out]; rfl, rfl⟩

/-! ### Sizes, classOf -/
def szOf (c : Int) : Int := if c = 0 then 64 else if c = 1 then 256 else if c = 2 then 1024 else if c = 3 then 4096 else 0

theorem sizes_out (c : Int) (w : World) (h0 : c < 0 ∨ 4 ≤ c) :
    Calls Try.prog 16 #[.int .i64 c] w fun e w' => e = .returned (.int .i64 0) ∧ w = w' := by
  rcases h0 with h | h
  all_goals
    go_enter Try.func16, Try.ntmps16
    go_wp2
    go_ret
    exact ⟨rfl, rfl⟩

theorem sizes_in (c : Int) (w : World) (h0 : 0 ≤ c) (h4 : c < 4) :
    Calls Try.prog 16 #[.int .i64 c] w fun e w' => e = .returned (.int .i64 (szOf c)) ∧ w = w' := by
  have i0 : ∀ w, (Instr.index 26 (.agg #[.int .i64 64, .int .i64 256, .int .i64 1024, .int .i64 4096]) (.int .i64 0)).run Try.prog w = .ok (.int .i64 64) w := fun _ => by kernel_rfl
  have i1 : ∀ w, (Instr.index 26 (.agg #[.int .i64 64, .int .i64 256, .int .i64 1024, .int .i64 4096]) (.int .i64 1)).run Try.prog w = .ok (.int .i64 256) w := fun _ => by kernel_rfl
  have i2 : ∀ w, (Instr.index 26 (.agg #[.int .i64 64, .int .i64 256, .int .i64 1024, .int .i64 4096]) (.int .i64 2)).run Try.prog w = .ok (.int .i64 1024) w := fun _ => by kernel_rfl
  have i3 : ∀ w, (Instr.index 26 (.agg #[.int .i64 64, .int .i64 256, .int .i64 1024, .int .i64 4096]) (.int .i64 3)).run Try.prog w = .ok (.int .i64 4096) w := fun _ => by kernel_rfl
  have : c = 0 ∨ c = 1 ∨ c = 2 ∨ c = 3 := by omega
  rcases this with rfl | rfl | rfl | rfl
  all_goals
    go_enter Try.func16, Try.ntmps16
    go_wp2
    go_ret
    exact ⟨rfl, rfl⟩

theorem sizes_calls (c : Int) (w : World) :
    Calls Try.prog 16 #[.int .i64 c] w fun e w' => e = .returned (.int .i64 (szOf c)) ∧ w = w' := by
  by_cases h0 : 0 ≤ c
  · by_cases h4 : c < 4
    · exact sizes_in c w h0 h4
    · exact (sizes_out c w (by omega)).mono fun e w' ⟨h, k⟩ => ⟨by rw [h]; unfold szOf; simp only [show c ≠ 0 by omega, show c ≠ 1 by omega, show c ≠ 2 by omega, show c ≠ 3 by omega, if_false], k⟩
  · exact (sizes_out c w (by omega)).mono fun e w' ⟨h, k⟩ => ⟨by rw [h]; unfold szOf; simp only [show c ≠ 0 by omega, show c ≠ 1 by omega, show c ≠ 2 by omega, show c ≠ 3 by omega, if_false], k⟩

def clsFor (n : Int) : Int := if n ≤ 64 then 0 else if n ≤ 256 then 1 else if n ≤ 1024 then 2 else if n ≤ 4096 then 3 else 4
theorem clsFor_at (n k : Int) (h0 : 0 ≤ k) (h4 : k < 4) (hlo : ∀ j, 0 ≤ j → j < k → szOf j < n) (hk : n ≤ szOf k) : clsFor n = k := by
  have : k = 0 ∨ k = 1 ∨ k = 2 ∨ k = 3 := by omega
  have a0 := hlo 0
  have a1 := hlo 1
  have a2 := hlo 2
  rcases this with rfl | rfl | rfl | rfl <;> simp [szOf, clsFor] at * <;> omega
theorem clsFor_no (n : Int) (hlo : ∀ j, 0 ≤ j → j < 4 → szOf j < n) : clsFor n = 4 := by
  have a0 := hlo 0
  have a1 := hlo 1
  have a2 := hlo 2
  have a3 := hlo 3
  simp [szOf, clsFor] at *; omega

set_option maxHeartbeats 400000 in
theorem classOf_calls (n : Int) (w : World) :
    Calls Try.prog 88 #[.int .i64 n] w fun e w' => e = .returned (.int .i64 (clsFor n)) ∧ w = w' := by
  go_enter Try.func88, Try.ntmps88
  go_wp2_with fail
  go_loop [4] (fun i => ∃ k : Nat, k ≤ 4 ∧ i = .int .i64 k ∧ Hid (∀ j : Int, 0 ≤ j → j < k → szOf j < n)) (fun i => 4 - (intOf i).toNat)
  case atStart => exact ⟨0, Nat.zero_le _, rfl, fun j h => by omega⟩
  case round =>
    obtain ⟨k, hk, rfl, hno⟩ := hrel
    by_cases hlt : k < 4
    · by_cases hh : n ≤ szOf k
      · have he : Hid (clsFor n = k) := clsFor_at n k (by omega) (by omega) hno.out hh
        go_wp2_with (go_at_call 16; refine (sizes_calls _ _).mono ?_; rintro e w' ⟨rfl, rfl⟩)
        go_ret
        exact ⟨by rw [he.out]; rfl, rfl⟩
      · have hno' : Hid (∀ j : Int, 0 ≤ j → j < (k + 1 : Nat) → szOf j < n) := by
          intro j h h'
          by_cases e : j = k
          · subst e; omega
          · exact hno.out j (by omega) (by omega)
        go_wp2_with (go_at_call 16; refine (sizes_calls _ _).mono ?_; rintro e w' ⟨rfl, rfl⟩)
        go_round
        case rel => exact ⟨k + 1, by omega, by go_num, hno'⟩
        case measure => simp [intOf]; omega
    · have he : Hid (clsFor n = 4) := clsFor_no n fun j h h' => hno.out j h (by omega)
      go_wp2
      go_ret
      exact ⟨by rw [he.out]; rfl, rfl⟩
end Go.Proofs.Ytefcinifaaablaa.Slab
