/-
  Layer 15: Live.
-/
import Derived.Test.YtefcinifaaablaaSlabNew
namespace Go.Proofs.Ytefcinifaaablaa.Slab
open Go.RowKit Go.Sep
set_option maxRecDepth 100000
set_option linter.unusedVariables false
set_option linter.unusedSimpArgs false

def liveIn (l : List Blk) : Nat := l.countP fun b => decide (0 < b.held)
def liveOf (m : List Cls) (c : Int) : Nat := if 0 ≤ c then match m[c.toNat]? with | some k => liveIn k.l | none => 0 else 0

set_option maxHeartbeats 400000 in
theorem live_out (a : Nat) (c : Int) (w : World) (hc : c < 0 ∨ 4 ≤ c) (h1 : w.cell? ⟨a, 0, none⟩ = some (.bool true)) :
    Calls Try.prog 15 #[.pointer (some ⟨a, 0, none⟩), .int .i64 c] w fun e w' => e = .returned (.int .i64 0) ∧ Below w.heap.size w w' := by
  rcases hc with h | h
  · have g1 : decide (c < 0) = true := by simpa using h
    go_enter Try.func15, Try.ntmps15
    go_wp2_with (go_at_call 49; refine (none_calls _ _ ?_).mono ?_; go_simp; rintro e w' ⟨rfl, rfl⟩)
    go_ret
    exact ⟨rfl, Below.refl _ _⟩
  · have g1 : decide (c < 0) = false := by simp; omega
    have g2 : decide (4 ≤ c) = true := by simpa using h
    go_enter Try.func15, Try.ntmps15
    go_wp2_with (go_at_call 49; refine (none_calls _ _ ?_).mono ?_; go_simp; rintro e w' ⟨rfl, rfl⟩)
    go_ret
    exact ⟨rfl, Below.refl _ _⟩

theorem countP_take_succ {α : Type _} (p : α → Bool) (l : List α) (k : Nat) (h : k < l.length) : (l.take (k + 1)).countP p = (l.take k).countP p + if p l[k] then 1 else 0 := by
  rw [List.take_succ_eq_append_getElem h, List.countP_append, List.countP_cons]; simp

set_option maxHeartbeats 400000 in
theorem live_in (a : Nat) (m : List Cls) (F : Asr) (w : World) (c : Nat) (hf : Fit m) (hw : Holds w (arenaA a m * F)) (hc : c < m.length) :
    Calls Try.prog 15 #[.pointer (some ⟨a, 0, none⟩), .int .i64 c] w fun e w' => e = .returned (.int .i64 (liveIn m[c].l : Nat)) ∧ Below w.heap.size w w' := by
  have h1 := arena_made hw
  have h2 := arena_sl hw c hc
  have hcell : ∀ k (hk : k < m[c].l.length), w.cell? ⟨m[c].blk, k * 3, none⟩ = some m[c].l[k].sl ∧ w.cell? ⟨m[c].blk, k * 3 + 1, none⟩ = some (.int .i64 m[c].l[k].gen) ∧ w.cell? ⟨m[c].blk, k * 3 + 2, none⟩ = some (.int .i64 m[c].l[k].held) ∧ m[c].blk < w.heap.size := by
    intro k hk
    obtain ⟨_, q1, q2, q3, q4, _⟩ := arena_facts hf hw c k hc hk
    exact ⟨q1, q2, q3, q4⟩
  have hl := hf.cap _ (List.getElem_mem hc)
  unfold Cls.sl at h2
  have HC := Lib.hid hcell
  clear hcell
  generalize m[c].l = l at *
  generalize m[c].blk = B at *
  have hlive : liveIn l ≤ l.length := List.countP_le_length
  have g7 : (0 : Int) ≤ (c : Int) := by omega
  have g8 : (c : Int) < 4 := by have := hf.len; omega
  have g1 : decide ((c : Int) < 0) = false := by simp
  have g2 : decide (4 ≤ (c : Int)) = false := by simp; omega
  clear hw hf hc
  go_enter Try.func15, Try.ntmps15
  go_wp2_with (go_at_call 49; refine (none_calls _ _ ?_).mono ?_; go_simp; rintro e w' ⟨rfl, rfl⟩)
  go_loopw [5, 25] (fun n i wr => ∃ k : Nat, k ≤ l.length ∧ i = .int .i64 k ∧ n = .int .i64 (liveIn (l.take k) : Nat) ∧ Hid (Below w.heap.size w wr)) (fun _ i _ => l.length - (intOf i).toNat)
  case atStart => exact ⟨0, Nat.zero_le _, rfl, rfl, Below.refl _ _⟩
  case round =>
    obtain ⟨k, hk, rfl, rfl, hB⟩ := hrel
    by_cases hlt : k < l.length
    · obtain ⟨q1, q2, q3, q4⟩ := HC.out k hlt
      have r1 := (hB.out.cell (p := ⟨B, k * 3, none⟩) q4).trans q1
      have r2 := (hB.out.cell (p := ⟨B, k * 3 + 1, none⟩) q4).trans q2
      have r3 := (hB.out.cell (p := ⟨B, k * 3 + 2, none⟩) q4).trans q3
      have hs : Hid (liveIn (l.take (k + 1)) = liveIn (l.take k) + if decide (0 < l[k].held) then 1 else 0) := countP_take_succ _ l k hlt
      have hb : liveIn (l.take k) ≤ 4096 := Nat.le_trans List.countP_le_length (by simp; omega)
      clear q1 q2 q3
      obtain ⟨so, sn, hsl⟩ : ∃ so sn, l[k].sl = .slice so sn sn := by
        unfold Blk.sl; split
        · exact ⟨_, _, rfl⟩
        · exact ⟨none, 0, rfl⟩
      rw [hsl] at r1
      have hsz := hB.out.size
      clear hsl
      by_cases hh : 0 < l[k].held
      · have g3 : decide (0 < l[k].held) = true := by simpa using hh
        have hs' := hs.out
        rw [g3, if_pos rfl] at hs'
        have HS := Lib.hid hs'
        clear hh hs hs'
        go_wp2
        go_roundw
        case rel => exact ⟨k + 1, by omega, by go_num, by rw [HS.out]; go_num, hB.out.alloc hsz _⟩
        case measure => simp [intOf]; omega
      · have g3 : decide (0 < l[k].held) = false := by simpa using hh
        have hs' := hs.out
        rw [g3, if_neg (by simp)] at hs'
        have HS := Lib.hid hs'
        clear hh hs hs'
        go_wp2
        go_roundw
        case rel => exact ⟨k + 1, by omega, by go_num, by rw [HS.out]; go_num, hB.out.alloc hsz _⟩
        case measure => simp [intOf]; omega
    · have e : Hid (l.take k = l) := List.take_of_length_le (by omega)
      go_wp2
      go_ret
      exact ⟨by rw [e.out]; rfl, hB.out⟩

theorem live_calls (a : Nat) (m : List Cls) (F : Asr) (w : World) (c : Int) (hf : Fit m) (hw : Holds w (arenaA a m * F)) :
    Calls Try.prog 15 #[.pointer (some ⟨a, 0, none⟩), .int .i64 c] w fun e w' => e = .returned (.int .i64 (liveOf m c : Nat)) ∧ Below w.heap.size w w' := by
  by_cases h : c < 0 ∨ 4 ≤ c
  · have e : liveOf m c = 0 := by
      unfold liveOf
      rcases h with h | h
      · rw [if_neg (by omega)]
      · rw [if_pos (by omega), List.getElem?_eq_none (by have := hf.len; omega)]
    rw [e]; exact live_out a c w h (arena_made hw)
  · obtain ⟨c', rfl⟩ := Int.eq_ofNat_of_zero_le (show 0 ≤ c by omega)
    have hc : c' < m.length := by have := hf.len; omega
    have e : liveOf m c' = liveIn m[c'].l := by simp [liveOf, hc]
    rw [e]; exact live_in a m F w c' hf hw hc
#print axioms live_calls
end Go.Proofs.Ytefcinifaaablaa.Slab
