/-
  The document's arena (ref15): Live, Sizes.
-/
import Derived.Test.YtefcinifaaablaaRef15
import Derived.Test.YtefcinifaaablaaSlab
namespace Go.Proofs.Ytefcinifaaablaa.Ref15
open Go.RowKit Go.Sep
open Go.Proofs.Ytefcinifaaablaa.Slab (szOf)
set_option maxRecDepth 100000
set_option linter.unusedVariables false
set_option linter.unusedSimpArgs false

theorem sizes_calls (c : Int) (w : World) :
    Calls Try.prog 53 #[.int .i64 c] w fun e w' => e = .returned (.int .i64 (szOf c)) ∧ Below w.heap.size w w' := by
  by_cases h0 : 0 ≤ c
  · by_cases h4 : c < 4
    · have : c = 0 ∨ c = 1 ∨ c = 2 ∨ c = 3 := by omega
      rcases this with rfl | rfl | rfl | rfl
      all_goals
        go_enter Try.func53, Try.ntmps53
        go_wp2
        go_ret
        exact ⟨rfl, (Below.refl _ _).alloc (Nat.le_refl _) _⟩
    · have R : Hid (szOf c = 0) := by
        show _ = _
        unfold szOf; repeat (rw [if_neg (by omega)])
      go_enter Try.func53, Try.ntmps53
      go_wp2
      go_ret
      exact ⟨by rw [R.out]; rfl, Below.refl _ _⟩
  · have R : Hid (szOf c = 0) := by
      show _ = _
      unfold szOf; repeat (rw [if_neg (by omega)])
    go_enter Try.func53, Try.ntmps53
    go_wp2
    go_ret
    exact ⟨by rw [R.out]; rfl, Below.refl _ _⟩
#print axioms sizes_calls

def liveP (c : Int) (b : RBlk) : Bool := b.c == c && decide (0 < b.h)
def liveL (L : List RBlk) (c : Int) : Nat := L.countP (liveP c)
theorem live_take (L : List RBlk) (c : Int) (k : Nat) (hk : k < L.length) : (L.take (k + 1)).countP (liveP c) = (L.take k).countP (liveP c) + if liveP c L[k] then 1 else 0 := by
  rw [List.take_succ_eq_append_getElem hk, List.countP_append]
  simp [List.countP_singleton]

set_option maxHeartbeats 2000000 in
theorem live_calls (a : Nat) (B : Nat → Int) (L : List RBlk) (F : Asr) (c : Int) (w : World) (hw : Holds w (refA a B L * F)) :
    Calls Try.prog 28 #[.pointer (some ⟨a, 0, none⟩), .int .i64 c] w fun e w' => e = .returned (.int .i64 (liveL L c)) ∧ w = w' := by
  obtain ⟨v, ao, cap, S, -⟩ := ref_seen hw
  obtain rfl := S.is
  have h1 := S.lt
  have h2 := S.sl
  have h3 := S.small
  have HC := Lib.hid S.cell
  have ht : Hid ((L.take L.length).countP (liveP c) = liveL L c) := by show _ = _; simp [liveL]
  clear S hw
  go_enter Try.func28, Try.ntmps28
  go_wp2_with fail
  go_loop [5, 6] (fun n x => ∃ (k m : Nat), k ≤ L.length ∧ m ≤ k ∧ n = .int .i64 m ∧ x = .int .i64 k ∧ Hid ((L.take k).countP (liveP c) = m)) (fun _ x => L.length - (intOf x).toNat)
  case atStart => exact ⟨0, 0, Nat.zero_le _, Nat.zero_le _, rfl, rfl, by show _ = _; simp⟩
  case round =>
    obtain ⟨k, m, hk, hm, rfl, rfl, hcnt⟩ := hrel
    by_cases hlt : k < L.length
    · obtain ⟨g, rfl, hg, hcell⟩ := HC.out k hlt
      have k0 := hcell 0 (by omega)
      have k3 := hcell 3 (by omega)
      simp only [RBlk.enc, Nat.add_zero, List.getElem?_cons_zero, List.getElem?_cons_succ] at k0 k3
      have e0 : (0 : Int) ≤ (k : Int) := by omega
      have e1 : (k : Int) < (L.length : Int) := by omega
      have ST := Lib.hid (live_take L c k hlt)
      clear hcell
      by_cases hc : L[k].c = c
      · by_cases hi : 0 < L[k].h
        · have d0 : (L[k].c == c) = true := by simpa using hc
          have d1 : decide (0 < L[k].h) = true := by simpa using hi
          have R : Hid ((L.take (k + 1)).countP (liveP c) = m + 1) := by show _ = _; rw [ST.out, hcnt.out, if_pos (by simp [liveP, hc, hi])]
          clear hc
          go_wp2_with fail
          go_round
          case rel => exact ⟨k + 1, m + 1, by omega, by omega, by go_num, by go_num, R.out⟩
          case measure => simp [intOf]; omega
        · have d0 : (L[k].c == c) = true := by simpa using hc
          have d1 : decide (0 < L[k].h) = false := by simpa using hi
          have R : Hid ((L.take (k + 1)).countP (liveP c) = m) := by show _ = _; rw [ST.out, hcnt.out, if_neg (by simp [liveP, hi])]; rfl
          clear hc
          go_wp2_with fail
          go_round
          case rel => exact ⟨k + 1, m, by omega, by omega, rfl, by go_num, R.out⟩
          case measure => simp [intOf]; omega
      · have d0 : (L[k].c == c) = false := by simpa using hc
        have R : Hid ((L.take (k + 1)).countP (liveP c) = m) := by show _ = _; rw [ST.out, hcnt.out, if_neg (by simp [liveP, hc])]; rfl
        clear hc
        go_wp2_with fail
        go_round
        case rel => exact ⟨k + 1, m, by omega, by omega, rfl, by go_num, R.out⟩
        case measure => simp [intOf]; omega
    · obtain rfl : k = L.length := by omega
      have R : Hid (liveL L c = m) := by show _ = _; rw [← ht.out, hcnt.out]
      go_wp2_with fail
      go_ret
      exact ⟨by rw [R.out]; rfl, rfl⟩
#print axioms live_calls
end Go.Proofs.Ytefcinifaaablaa.Ref15
