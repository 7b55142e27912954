/-
  OriginNobody: the calls of an origin that no call made, and the walk.
-/
import Derived.Test.YtmniedeibafebaaGreatDoorRows
import Derived.Test.YtmniedeibafebaaGreatDoorMem
import Derived.Deep.QuietTactic
import Derived.BigQuiet
import Derived.RegionTactic
import Derived.LoopTactic
import Derived.OwnWalk
import Derived.Outline
import Derived.WalkSpells
namespace Go.Proofs.YtmniedeibafebaaGreatDoor.OriginN
open Go.RowKit Go.Sep
set_option maxRecDepth 100000
set_option linter.unusedVariables false
set_option linter.unusedSimpArgs false
def Nobody (w : World) (p : Option Addr) : Prop := p = none ∨ ∃ a, p = some ⟨a, 0, none⟩ ∧ w.cell? ⟨a, 0, none⟩ = some (.bool false) ∧ a < w.heap.size
def reply0 : Value := .agg #[.int .i64 0, .int .i64 0, .int .i64 0, .int .i64 0, .string ⟨#[]⟩, .slice none 0 0, .slice none 0 0, .int .i64 0, .int .i64 0]
theorem nb_Change (p : Option Addr) (w : World) (h : Nobody w p) : Calls Tryz.prog 16 #[.pointer p, .int .i64 0, .slice none 0 0] w fun e w' => e = .returned (.int .i64 1) ∧ Below w.heap.size w w' := by
  rcases h with rfl | ⟨a, rfl, h2, h3⟩
  all_goals
    go_enter Tryz.func16, Tryz.ntmps16
    go_wp2
    go_ret
    exact ⟨rfl, by (first | exact Below.refl _ _ | exact (Below.refl _ _).drew | exact (Below.refl _ _).alloc (Nat.le_refl _) _)⟩
theorem nb_Answer (p : Option Addr) (c0 c1 c2 c3 : Value) (w : World) (h : Nobody w p) : Calls Tryz.prog 15 #[.pointer p, .agg #[c0, c1, c2, c3]] w fun e w' => e = .returned reply0 ∧ Below w.heap.size w w' := by
  rcases h with rfl | ⟨a, rfl, h2, h3⟩
  all_goals
    go_enter Tryz.func15, Tryz.ntmps15
    go_wp2_with fail
    exact bodyPost_ret (v := reply0) (by simp [results, Tryz.results15, go_sem, reply0]) rfl ⟨rfl, ((Below.refl _ _).alloc (Nat.le_refl _) _).alloc (by simp) _⟩

set_option maxHeartbeats 8000000 in
theorem nobody_walk (c0 c1 c2 c3 : Value) (w : World) :
    Calls Tryz.prog 4 #[.agg #[c0, c1, c2, c3]] w fun e w' => e = .returned (.bool true) ∧ Below w.heap.size w w' := by
  obtain ⟨W3, hW3⟩ : ∃ W3, W3 = ((w.alloc (.cells #[c0, c1, c2, c3] 58)).alloc (.cells #[.bool false, .slice none 0 0, .slice none 0 0] 62)).alloc (.cells #[.pointer none, .pointer (some ⟨w.heap.size + 1, 0, none⟩)] 59) := ⟨_, rfl⟩
  have hsz : W3.heap.size = w.heap.size + 3 := by rw [hW3]; simp
  have hfl : ∀ wq, Below (w.heap.size + 3) W3 wq → wq.cell? ⟨w.heap.size + 2, 0, none⟩ = some (.pointer none) ∧ wq.cell? ⟨w.heap.size + 2, 1, none⟩ = some (.pointer (some ⟨w.heap.size + 1, 0, none⟩)) ∧ wq.cell? ⟨w.heap.size + 1, 0, none⟩ = some (.bool false) ∧ w.heap.size + 1 < wq.heap.size := by
    intro wq hq
    have h : ∀ j, W3.cell? ⟨w.heap.size + 2, j, none⟩ = #[Value.pointer none, .pointer (some ⟨w.heap.size + 1, 0, none⟩)][j]? := by
      intro j
      rw [hW3]
      exact World.cell?_alloc_at _ _ _ j (by simp)
    have h' : W3.cell? ⟨w.heap.size + 1, 0, none⟩ = some (.bool false) := by
      rw [hW3, World.cell?_alloc_lt _ _ _ (by simp)]
      rw [World.cell?_alloc_at _ _ _ 0 (by simp)]; rfl
    exact ⟨(hq.cell (p := ⟨w.heap.size + 2, 0, none⟩) (by simp)).trans (h 0), (hq.cell (p := ⟨w.heap.size + 2, 1, none⟩) (by simp)).trans (h 1), (hq.cell (p := ⟨w.heap.size + 1, 0, none⟩) (by simp)).trans h', by have := hq.size; omega⟩
  have hfc : ∀ wq, Below (w.heap.size + 3) W3 wq → wq.cell? ⟨w.heap.size, 0, none⟩ = some c0 ∧ wq.cell? ⟨w.heap.size, 1, none⟩ = some c1 ∧ wq.cell? ⟨w.heap.size, 2, none⟩ = some c2 ∧ wq.cell? ⟨w.heap.size, 3, none⟩ = some c3 := by
    intro wq hq
    have h : ∀ j, W3.cell? ⟨w.heap.size, j, none⟩ = #[c0, c1, c2, c3][j]? := by
      intro j; rw [hW3, World.cell?_alloc_lt _ _ _ (by simp <;> omega), World.cell?_alloc_lt _ _ _ (by simp <;> omega)]; exact World.cell?_alloc_at _ _ _ j (by simp)
    exact ⟨(hq.cell (p := ⟨w.heap.size, 0, none⟩) (by simp)).trans (h 0), (hq.cell (p := ⟨w.heap.size, 1, none⟩) (by simp)).trans (h 1), (hq.cell (p := ⟨w.heap.size, 2, none⟩) (by simp)).trans (h 2), (hq.cell (p := ⟨w.heap.size, 3, none⟩) (by simp)).trans (h 3)⟩
  have hb3 : Below w.heap.size w W3 := by rw [hW3]; exact ((((Below.refl _ _).alloc (by simp <;> omega) _).alloc (by simp <;> omega) _).alloc (by simp <;> omega) _)
  have FL := Lib.hid hfl
  have FC := Lib.hid hfc
  have B3 := Lib.hid hb3
  have W3E := Lib.hid hW3
  have SZ3 := Lib.hid hsz
  clear hfl hb3 hW3 hsz hfc
  go_enter Tryz.func4, Tryz.ntmps4
  go_wp2_with fail
  go_loopw [10] (fun i wr => ∃ k : Nat, k ≤ 2 ∧ i = .int .i64 k ∧ Hid (Below (w.heap.size + 3) W3 wr)) (fun i _ => 2 - (intOf i).toNat)
  case atStart => exact ⟨0, by omega, rfl, by rw [W3E.out]; exact Below.refl _ _⟩
  case round =>
    obtain ⟨k, hk, rfl, HB⟩ := hrel
    by_cases hlt : k < 2
    · obtain ⟨l0, l1, l2, l3⟩ := FL.out _ HB.out
      obtain ⟨f0, f1, f2, f3⟩ := FC.out _ HB.out
      have hp : ∃ p : Option Addr, wr.cell? ⟨w.heap.size + 2, k, none⟩ = some (.pointer p) ∧ ∀ wq, Below (w.heap.size + 3) W3 wq → Nobody wq p := by
        have : k = 0 ∨ k = 1 := by omega
        rcases this with rfl | rfl
        · exact ⟨_, l0, fun _ _ => .inl rfl⟩
        · refine ⟨_, l1, fun wq hq => ?_⟩
          obtain ⟨-, -, q2, q3⟩ := FL.out wq hq
          exact .inr ⟨_, rfl, q2, q3⟩
      obtain ⟨p, hp, hno⟩ := hp
      have FN := Lib.hid hno
      have k0 : (0 : Int) ≤ (k : Int) := by omega
      have k1 : (k : Int) < 2 := by omega
      clear l0 l1 l2 l3 hno
      go_wp2_with fail
      refine (nb_Answer _ _ _ _ _ _ (FN.out _ HB.out)).mono ?_
      rintro e w100 ⟨rfl, hb⟩
      have HB2 : Hid (Below (w.heap.size + 3) W3 w100) := HB.out.trans (hb.mono (by have := HB.out.size; have := SZ3.out; omega))
      clear hb HB f0 f1 f2 f3
      have HB := Lib.hid HB2.out
      clear HB2
      unfold reply0
      have HB3 : Hid (Below (w.heap.size + 3) W3 (w100.alloc (.cells #[.int .i64 0, .int .i64 0, .int .i64 0, .int .i64 0, .string ⟨#[]⟩, .slice none 0 0, .slice none 0 0, .int .i64 0, .int .i64 0] 67))) := HB.out.alloc (by have := HB.out.size; have := SZ3.out; omega) _
      go_wp2_with fail
      refine (nb_Change _ _ (FN.out _ HB3.out)).mono ?_
      rintro e w101 ⟨rfl, hb⟩
      have fr : ∀ j, w101.cell? ⟨w100.heap.size, j, none⟩ = #[Value.int .i64 0, .int .i64 0, .int .i64 0, .int .i64 0, .string ⟨#[]⟩, .slice none 0 0, .slice none 0 0, .int .i64 0, .int .i64 0][j]? := fun j =>
        (hb.cell (p := ⟨w100.heap.size, j, none⟩) (by simp)).trans (World.cell?_alloc_at _ _ _ j (by simp))
      have r0 := fr 0
      have r3 := fr 3
      have r6 := fr 6
      have r8 := fr 8
      simp at r0 r3 r6 r8
      have HB2 : Hid (Below (w.heap.size + 3) W3 w101) := HB3.out.trans (hb.mono (by have := HB3.out.size; have := SZ3.out; omega))
      clear hb HB HB3 fr
      have HB := Lib.hid HB2.out
      clear HB2
      go_wp2_with fail
      go_roundw
      case rel => exact ⟨k + 1, by omega, by go_num, HB.out⟩
      case measure => simp [intOf]; omega
    · go_wp2_with fail
      go_ret
      exact ⟨rfl, B3.out.trans (HB.out.mono (by omega))⟩
#print axioms nobody_walk
end Go.Proofs.YtmniedeibafebaaGreatDoor.OriginN
