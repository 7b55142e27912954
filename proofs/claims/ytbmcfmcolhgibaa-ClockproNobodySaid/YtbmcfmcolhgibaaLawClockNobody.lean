/-
  ClockproNobody: the calls of a clock that no call made, and the walk.
-/
import Derived.Test.YtbmcfmcolhgibaaRows
import Derived.Test.YtbmcfmcolhgibaaMem
import Derived.Deep.QuietTactic
import Derived.BigQuiet
import Derived.RegionTactic
import Derived.LoopTactic
import Derived.OwnWalk
import Derived.Outline
import Derived.WalkSpells
namespace Go.Proofs.Ytbmcfmcolhgibaa.Clock
open Go.RowKit Go.Sep
set_option maxRecDepth 100000
set_option linter.unusedVariables false
set_option linter.unusedSimpArgs false

def Nobody (w : World) (p : Option Addr) : Prop := p = none ∨ ∃ a, p = some ⟨a, 0, none⟩ ∧ w.cell? ⟨a, 3, none⟩ = some (.map none) ∧ a < w.heap.size

theorem nobody_none (p : Option Addr) (w : World) (h : Nobody w p) : Calls Try.prog 55 #[.pointer p] w fun e w' => e = .returned (.bool true) ∧ w = w' := by
  have hmn := fun w => Go.run_eql_map_nil (P := Try.prog) w 79 3 105 none Try.underlying79
  rcases h with rfl | ⟨a, rfl, h2, h3⟩
  · go_enter Try.func55, Try.ntmps55
    go_wp2
    go_ret
    exact ⟨rfl, rfl⟩
  · go_enter Try.func55, Try.ntmps55
    go_wp2
    go_ret
    exact ⟨rfl, rfl⟩
theorem nobody_kind (p : Option Addr) (n : Int) (w : World) (h : Nobody w p) : Calls Try.prog 27 #[.pointer p, .int .i64 n] w fun e w' => e = .returned (.int .i64 0) ∧ w = w' := by
  have H := Lib.hid (nobody_none p w h)
  clear h
  go_enter Try.func27, Try.ntmps27
  go_wp2_with (go_at_call 55; refine (H.out).mono ?_; rintro e w' ⟨rfl, rfl⟩)
  go_ret
  exact ⟨rfl, rfl⟩
theorem nobody_count (p : Option Addr) (n : Int) (w : World) (h : Nobody w p) : Calls Try.prog 42 #[.pointer p, .int .i64 n] w fun e w' => e = .returned (.int .i64 0) ∧ w = w' := by
  have H := Lib.hid (nobody_none p w h)
  clear h
  go_enter Try.func42, Try.ntmps42
  go_wp2_with (go_at_call 55; refine (H.out).mono ?_; rintro e w' ⟨rfl, rfl⟩)
  go_ret
  exact ⟨rfl, rfl⟩
theorem nobody_target (p : Option Addr) (w : World) (h : Nobody w p) : Calls Try.prog 28 #[.pointer p] w fun e w' => e = .returned (.int .i64 0) ∧ w = w' := by
  have H := Lib.hid (nobody_none p w h)
  clear h
  go_enter Try.func28, Try.ntmps28
  go_wp2_with (go_at_call 55; refine (H.out).mono ?_; rintro e w' ⟨rfl, rfl⟩)
  go_ret
  exact ⟨rfl, rfl⟩
theorem nobody_touch (p : Option Addr) (n : Int) (w : World) (h : Nobody w p) : Calls Try.prog 29 #[.pointer p, .int .i64 n] w fun e w' => e = .returned (.bool false) ∧ w = w' := by
  have H := Lib.hid (nobody_kind p n w h)
  clear h
  go_enter Try.func29, Try.ntmps29
  go_wp2_with (go_at_call 27; refine (H.out).mono ?_; rintro e w' ⟨rfl, rfl⟩)
  go_ret
  exact ⟨rfl, rfl⟩
theorem nobody_remove (p : Option Addr) (n : Int) (w : World) (h : Nobody w p) : Calls Try.prog 41 #[.pointer p, .int .i64 n] w fun e w' => e = .returned (.bool false) ∧ w = w' := by
  have H := Lib.hid (nobody_kind p n w h)
  clear h
  go_enter Try.func41, Try.ntmps41
  go_wp2_with (go_at_call 27; refine (H.out).mono ?_; rintro e w' ⟨rfl, rfl⟩)
  go_ret
  exact ⟨rfl, rfl⟩
theorem nobody_add (p : Option Addr) (n : Int) (w : World) (h : Nobody w p) : Calls Try.prog 26 #[.pointer p, .int .i64 n] w fun e w' => e = .returned (.tuple #[.slice none 0 0, .int .i64 1]) ∧ w = w' := by
  have H := Lib.hid (nobody_none p w h)
  clear h
  go_enter Try.func26, Try.ntmps26
  go_wp2_with (go_at_call 55; refine (H.out).mono ?_; rintro e w' ⟨rfl, rfl⟩)
  go_ret2
  exact ⟨rfl, rfl⟩
theorem nobody_evict (p : Option Addr) (w : World) (h : Nobody w p) : Calls Try.prog 40 #[.pointer p] w fun e w' => e = .returned (.tuple #[.int .i64 0, .bool false]) ∧ w = w' := by
  have H := Lib.hid (nobody_none p w h)
  clear h
  go_enter Try.func40, Try.ntmps40
  go_wp2_with (go_at_call 55; refine (H.out).mono ?_; rintro e w' ⟨rfl, rfl⟩)
  go_ret2
  exact ⟨rfl, rfl⟩

set_option maxHeartbeats 4000000 in
theorem nobody_walk (n : Int) (w : World) :
    Calls Try.prog 11 #[.int .i64 n] w fun e w' => e = .returned (.bool true) ∧ Below w.heap.size w w' := by
  obtain ⟨W3, hW3⟩ : ∃ W3, W3 = (w.alloc (.cells #[.int .i64 0, .int .i64 0, .map none, .map none] 81)).alloc (.cells #[.pointer none, .pointer (some ⟨w.heap.size, 0, none⟩)] 54) := ⟨_, rfl⟩
  have hsz : W3.heap.size = w.heap.size + 2 := by rw [hW3]; simp
  have hfl : ∀ wq, Below (w.heap.size + 2) W3 wq → wq.cell? ⟨w.heap.size + 1, 0, none⟩ = some (.pointer none) ∧ wq.cell? ⟨w.heap.size + 1, 1, none⟩ = some (.pointer (some ⟨w.heap.size, 0, none⟩)) ∧ wq.cell? ⟨w.heap.size, 3, none⟩ = some (.map none) ∧ w.heap.size < wq.heap.size := by
    intro wq hq
    have h : ∀ j, W3.cell? ⟨w.heap.size + 1, j, none⟩ = #[Value.pointer none, .pointer (some ⟨w.heap.size, 0, none⟩)][j]? := by
      intro j
      rw [hW3]
      exact World.cell?_alloc_at _ _ _ j (by simp)
    have h' : W3.cell? ⟨w.heap.size, 3, none⟩ = some (.map none) := by
      rw [hW3, World.cell?_alloc_lt _ _ _ (by simp)]
      rw [World.cell?_alloc_at _ _ _ 3 (by simp)]; rfl
    exact ⟨(hq.cell (p := ⟨w.heap.size + 1, 0, none⟩) (by simp)).trans (h 0), (hq.cell (p := ⟨w.heap.size + 1, 1, none⟩) (by simp)).trans (h 1), (hq.cell (p := ⟨w.heap.size, 3, none⟩) (by simp)).trans h', by have := hq.size; omega⟩
  have hb3 : Below w.heap.size w W3 := by rw [hW3]; exact ((Below.refl _ _).alloc (Nat.le_refl _) _).alloc (by simp) _
  have FL := Lib.hid hfl
  have B3 := Lib.hid hb3
  have W3E := Lib.hid hW3
  have SZ3 := Lib.hid hsz
  clear hfl hb3 hW3 hsz
  go_enter Try.func11, Try.ntmps11
  go_wp2_with fail
  go_loopw [13] (fun i wr => ∃ k : Nat, k ≤ 2 ∧ i = .int .i64 k ∧ Hid (Below (w.heap.size + 2) W3 wr)) (fun i _ => 2 - (intOf i).toNat)
  case atStart => exact ⟨0, by omega, rfl, by rw [W3E.out]; exact Below.refl _ _⟩
  case round =>
    obtain ⟨k, hk, rfl, HB⟩ := hrel
    by_cases hlt : k < 2
    · obtain ⟨l0, l1, l2, l3⟩ := FL.out _ HB.out
      have hp : ∃ p : Option Addr, wr.cell? ⟨w.heap.size + 1, k, none⟩ = some (.pointer p) ∧ ∀ wq, Below (w.heap.size + 2) W3 wq → Nobody wq p := by
        have : k = 0 ∨ k = 1 := by omega
        rcases this with rfl | rfl
        · exact ⟨_, l0, fun _ _ => .inl rfl⟩
        · refine ⟨_, l1, fun wq hq => ?_⟩
          obtain ⟨-, -, q2, q3⟩ := FL.out wq hq
          exact .inr ⟨_, rfl, q2, q3⟩
      obtain ⟨p, hp, hno⟩ := hp
      have FN := Lib.hid hno
      have k0 : (0 : Int) ≤ (k : Int) := by omega
      have k1 : (k : Int) < 2 := by omega
      clear l0 l1 l2 l3 hno
      go_wp2_with fail
      refine (nobody_add _ _ _ (FN.out _ HB.out)).mono ?_
      rintro e w9 ⟨rfl, rfl⟩
      go_wp2_with fail
      refine (nobody_evict _ _ (FN.out _ HB.out)).mono ?_
      rintro e w10 ⟨rfl, rfl⟩
      go_wp2_with fail
      refine (nobody_touch _ _ _ (FN.out _ HB.out)).mono ?_
      rintro e w11 ⟨rfl, rfl⟩
      go_wp2_with fail
      refine (nobody_remove _ _ _ (FN.out _ HB.out)).mono ?_
      rintro e w12 ⟨rfl, rfl⟩
      go_wp2_with fail
      refine (nobody_kind _ _ _ (FN.out _ HB.out)).mono ?_
      rintro e w13 ⟨rfl, rfl⟩
      go_wp2_with fail
      refine (nobody_count _ _ _ (FN.out _ HB.out)).mono ?_
      rintro e w14 ⟨rfl, rfl⟩
      go_wp2_with fail
      refine (nobody_target _ _ (FN.out _ HB.out)).mono ?_
      rintro e w15 ⟨rfl, rfl⟩
      go_wp2_with fail
      go_roundw
      case rel => exact ⟨k + 1, by omega, by go_num, HB.out⟩
      case measure => simp [intOf]; omega
    · go_wp2_with fail
      go_ret
      exact ⟨rfl, B3.out.trans (HB.out.mono (by omega))⟩
#print axioms nobody_walk
end Go.Proofs.Ytbmcfmcolhgibaa.Clock
