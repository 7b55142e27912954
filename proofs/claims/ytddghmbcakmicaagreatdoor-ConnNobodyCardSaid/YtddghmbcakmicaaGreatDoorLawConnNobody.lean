/-
  gatepost/gatepostlaw25.ConnNobody: the calls of a value that no call made, and the walk.
-/
import Derived.Test.YtddghmbcakmicaaGreatDoorRows
import Derived.Test.YtddghmbcakmicaaGreatDoorMem
import Derived.Deep.QuietTactic
import Derived.BigQuiet
import Derived.RegionTactic
import Derived.LoopTactic
import Derived.OwnWalk
import Derived.Outline
import Derived.WalkSpells
namespace Go.Proofs.YtddghmbcakmicaaGreatDoor.ConnN
open Go.RowKit Go.Sep
set_option maxRecDepth 100000
set_option linter.unusedVariables false
set_option linter.unusedSimpArgs false

def Nobody (w : World) (p : Option Addr) : Prop := p = none ∨ ∃ a, p = some ⟨a, 0, none⟩ ∧ w.cell? ⟨a, 11, none⟩ = some (.map none) ∧ a < w.heap.size
theorem Nobody.grow {w w' : World} {p : Option Addr} (h : Nobody w p) (g : Below w.heap.size w w') : Nobody w' p := by
  rcases h with h | ⟨a, h1, h2, h3⟩
  · exact .inl h
  · exact .inr ⟨a, h1, (g.cell (p := ⟨a, 11, none⟩) h3).trans h2, Nat.lt_of_lt_of_le h3 g.size⟩
theorem box_below (w : World) (o : Obj) : Below w.heap.size w (w.alloc o) := (Below.refl _ _).alloc (Nat.le_refl _) _

theorem nb_none (p : Option Addr) (w : World) (h : Nobody w p) : Calls Tryz.prog 55 #[.pointer p] w fun e w' => e = .returned (.bool true) ∧ w = w' := by
  have hmn := fun w => Go.run_eql_map_nil (P := Tryz.prog) w 74 3 133 none Tryz.underlying74
  rcases h with rfl | ⟨a, rfl, h2, h3⟩
  · go_enter Tryz.func55, Tryz.ntmps55
    go_wp2
    go_ret
    exact ⟨rfl, rfl⟩
  · go_enter Tryz.func55, Tryz.ntmps55
    go_wp2
    go_ret
    exact ⟨rfl, rfl⟩
theorem nb_Feed (p : Option Addr) (b : Value) (w : World) (h : Nobody w p) : Calls Tryz.prog 18 #[.pointer p, b] w fun e w' => e = .returned (.tuple #[.slice none 0 0, .int .i64 1]) ∧ Below w.heap.size w w' := by
  have H0 := Lib.hid (nb_none p w h)
  have H1 := Lib.hid (fun o => nb_none p (w.alloc o) (h.grow (box_below w o)))
  have H2 := Lib.hid (fun o o' => nb_none p ((w.alloc o).alloc o') ((h.grow (box_below w o)).grow (box_below _ o')))
  clear h
  go_enter Tryz.func18, Tryz.ntmps18
  go_wp2_with (go_at_call 55; (first | refine (H0.out).mono ?_ | refine (H1.out _).mono ?_ | refine (H2.out _ _).mono ?_); rintro e w' ⟨rfl, rfl⟩)
  go_ret2
  exact ⟨rfl, by (first | exact Below.refl _ _ | exact (Below.refl _ _).drew | exact (Below.refl _ _).alloc (Nat.le_refl _) _ | exact ((Below.refl _ _).alloc (Nat.le_refl _) _).alloc (by simp) _ | exact ((Below.refl _ _).alloc (Nat.le_refl _) _).drew)⟩
theorem nb_Shut (p : Option Addr)  (w : World) (h : Nobody w p) : Calls Tryz.prog 19 #[.pointer p] w fun e w' => e = .returned (.int .i64 1) ∧ Below w.heap.size w w' := by
  have H0 := Lib.hid (nb_none p w h)
  have H1 := Lib.hid (fun o => nb_none p (w.alloc o) (h.grow (box_below w o)))
  have H2 := Lib.hid (fun o o' => nb_none p ((w.alloc o).alloc o') ((h.grow (box_below w o)).grow (box_below _ o')))
  clear h
  go_enter Tryz.func19, Tryz.ntmps19
  go_wp2_with (go_at_call 55; (first | refine (H0.out).mono ?_ | refine (H1.out _).mono ?_ | refine (H2.out _ _).mono ?_); rintro e w' ⟨rfl, rfl⟩)
  go_ret
  exact ⟨rfl, by (first | exact Below.refl _ _ | exact (Below.refl _ _).drew | exact (Below.refl _ _).alloc (Nat.le_refl _) _ | exact ((Below.refl _ _).alloc (Nat.le_refl _) _).alloc (by simp) _ | exact ((Below.refl _ _).alloc (Nat.le_refl _) _).drew)⟩
theorem nb_Answer (p : Option Addr) (k : Int) (b : Value) (l : Bool) (w : World) (h : Nobody w p) : Calls Tryz.prog 20 #[.pointer p, .int .i64 k, b, .bool l] w fun e w' => e = .returned (.int .i64 1) ∧ Below w.heap.size w w' := by
  have H0 := Lib.hid (nb_none p w h)
  have H1 := Lib.hid (fun o => nb_none p (w.alloc o) (h.grow (box_below w o)))
  have H2 := Lib.hid (fun o o' => nb_none p ((w.alloc o).alloc o') ((h.grow (box_below w o)).grow (box_below _ o')))
  clear h
  go_enter Tryz.func20, Tryz.ntmps20
  go_wp2_with (go_at_call 55; (first | refine (H0.out).mono ?_ | refine (H1.out _).mono ?_ | refine (H2.out _ _).mono ?_); rintro e w' ⟨rfl, rfl⟩)
  go_ret
  exact ⟨rfl, by (first | exact Below.refl _ _ | exact (Below.refl _ _).drew | exact (Below.refl _ _).alloc (Nat.le_refl _) _ | exact ((Below.refl _ _).alloc (Nat.le_refl _) _).alloc (by simp) _ | exact ((Below.refl _ _).alloc (Nat.le_refl _) _).drew)⟩
theorem nb_Out (p : Option Addr)  (w : World) (h : Nobody w p) : Calls Tryz.prog 21 #[.pointer p] w fun e w' => e = .returned (.slice none 0 0) ∧ Below w.heap.size w w' := by
  have H0 := Lib.hid (nb_none p w h)
  have H1 := Lib.hid (fun o => nb_none p (w.alloc o) (h.grow (box_below w o)))
  have H2 := Lib.hid (fun o o' => nb_none p ((w.alloc o).alloc o') ((h.grow (box_below w o)).grow (box_below _ o')))
  clear h
  go_enter Tryz.func21, Tryz.ntmps21
  go_wp2_with (go_at_call 55; (first | refine (H0.out).mono ?_ | refine (H1.out _).mono ?_ | refine (H2.out _ _).mono ?_); rintro e w' ⟨rfl, rfl⟩)
  go_ret
  exact ⟨rfl, by (first | exact Below.refl _ _ | exact (Below.refl _ _).drew | exact (Below.refl _ _).alloc (Nat.le_refl _) _ | exact ((Below.refl _ _).alloc (Nat.le_refl _) _).alloc (by simp) _ | exact ((Below.refl _ _).alloc (Nat.le_refl _) _).drew)⟩
theorem nb_Ended (p : Option Addr)  (w : World) (h : Nobody w p) : Calls Tryz.prog 22 #[.pointer p] w fun e w' => e = .returned (.bool true) ∧ Below w.heap.size w w' := by
  have H0 := Lib.hid (nb_none p w h)
  have H1 := Lib.hid (fun o => nb_none p (w.alloc o) (h.grow (box_below w o)))
  have H2 := Lib.hid (fun o o' => nb_none p ((w.alloc o).alloc o') ((h.grow (box_below w o)).grow (box_below _ o')))
  clear h
  go_enter Tryz.func22, Tryz.ntmps22
  go_wp2_with (go_at_call 55; (first | refine (H0.out).mono ?_ | refine (H1.out _).mono ?_ | refine (H2.out _ _).mono ?_); rintro e w' ⟨rfl, rfl⟩)
  go_ret
  exact ⟨rfl, by (first | exact Below.refl _ _ | exact (Below.refl _ _).drew | exact (Below.refl _ _).alloc (Nat.le_refl _) _ | exact ((Below.refl _ _).alloc (Nat.le_refl _) _).alloc (by simp) _ | exact ((Below.refl _ _).alloc (Nat.le_refl _) _).drew)⟩
theorem nb_Pending (p : Option Addr)  (w : World) (h : Nobody w p) : Calls Tryz.prog 23 #[.pointer p] w fun e w' => e = .returned (.int .i64 0) ∧ Below w.heap.size w w' := by
  have H0 := Lib.hid (nb_none p w h)
  have H1 := Lib.hid (fun o => nb_none p (w.alloc o) (h.grow (box_below w o)))
  have H2 := Lib.hid (fun o o' => nb_none p ((w.alloc o).alloc o') ((h.grow (box_below w o)).grow (box_below _ o')))
  clear h
  go_enter Tryz.func23, Tryz.ntmps23
  go_wp2_with (go_at_call 55; (first | refine (H0.out).mono ?_ | refine (H1.out _).mono ?_ | refine (H2.out _ _).mono ?_); rintro e w' ⟨rfl, rfl⟩)
  go_ret
  exact ⟨rfl, by (first | exact Below.refl _ _ | exact (Below.refl _ _).drew | exact (Below.refl _ _).alloc (Nat.le_refl _) _ | exact ((Below.refl _ _).alloc (Nat.le_refl _) _).alloc (by simp) _ | exact ((Below.refl _ _).alloc (Nat.le_refl _) _).drew)⟩

set_option maxHeartbeats 8000000 in
theorem nobody_walk (b : Option Addr) (l c : Nat) (w : World) :
    Calls Tryz.prog 5 #[.slice b l c] w fun e w' => e = .returned (.bool true) ∧ Below w.heap.size w w' := by
  obtain ⟨W3, hW3⟩ : ∃ W3, W3 = (w.alloc (.cells #[.nilFunc, .bool false, .string ⟨#[]⟩, .string ⟨#[]⟩, .int .i64 0, .slice none 0 0, .slice none 0 0, .bool false, .bool false, .int .i64 0, .map none, .map none, .int .i64 0, .bool false, .slice none 0 0] 76)).alloc (.cells #[.pointer none, .pointer (some ⟨w.heap.size, 0, none⟩)] 71) := ⟨_, rfl⟩
  have hsz : W3.heap.size = w.heap.size + 2 := by rw [hW3]; simp
  have hfl : ∀ wq, Below (w.heap.size + 2) W3 wq → wq.cell? ⟨w.heap.size + 1, 0, none⟩ = some (.pointer none) ∧ wq.cell? ⟨w.heap.size + 1, 1, none⟩ = some (.pointer (some ⟨w.heap.size, 0, none⟩)) ∧ wq.cell? ⟨w.heap.size, 11, none⟩ = some (.map none) ∧ w.heap.size < wq.heap.size := by
    intro wq hq
    have h : ∀ j, W3.cell? ⟨w.heap.size + 1, j, none⟩ = #[Value.pointer none, .pointer (some ⟨w.heap.size, 0, none⟩)][j]? := by
      intro j
      rw [hW3]
      exact World.cell?_alloc_at _ _ _ j (by simp)
    have h' : W3.cell? ⟨w.heap.size, 11, none⟩ = some (.map none) := by
      rw [hW3, World.cell?_alloc_lt _ _ _ (by simp)]
      rw [World.cell?_alloc_at _ _ _ 11 (by simp)]; rfl
    exact ⟨(hq.cell (p := ⟨w.heap.size + 1, 0, none⟩) (by simp)).trans (h 0), (hq.cell (p := ⟨w.heap.size + 1, 1, none⟩) (by simp)).trans (h 1), (hq.cell (p := ⟨w.heap.size, 11, none⟩) (by simp)).trans h', by have := hq.size; omega⟩
  have hb3 : Below w.heap.size w W3 := by rw [hW3]; exact (((Below.refl _ _).alloc (by simp <;> omega) _).alloc (by simp <;> omega) _)
  have FL := Lib.hid hfl
  have B3 := Lib.hid hb3
  have W3E := Lib.hid hW3
  have SZ3 := Lib.hid hsz
  clear hfl hb3 hW3 hsz
  go_enter Tryz.func5, Tryz.ntmps5
  go_wp2_with fail
  go_loopw [11] (fun i wr => ∃ k : Nat, k ≤ 2 ∧ i = .int .i64 k ∧ Hid (Below (w.heap.size + 2) W3 wr)) (fun i _ => 2 - (intOf i).toNat)
  case atStart => exact ⟨0, by omega, rfl, by rw [W3E.out]; exact Below.refl _ _⟩
  case round =>
    obtain ⟨k, hk, rfl, HB⟩ := hrel
    by_cases hlt : k < 2
    · obtain ⟨l0, l1, l2, l3⟩ := FL.out _ HB.out
      have hp : ∃ p : Option Addr, wr.cell? ⟨w.heap.size + 1, k, none⟩ = some (.pointer p) ∧ ∀ wq, Below (w.heap.size + 2) W3 wq → Nobody wq p := by
        have : k = 0 ∨ k = 1 := by omega
        rcases this with rfl | rfl
        · exact ⟨_, l0, fun _ _ => .inl rfl⟩
        · refine ⟨_, l1, fun wq hq => ?_⟩
          obtain ⟨-, -, q2, q3⟩ := FL.out wq hq
          exact .inr ⟨_, rfl, q2, q3⟩
      obtain ⟨p, hp, hno⟩ := hp
      have FN := Lib.hid hno
      have k0 : (0 : Int) ≤ (k : Int) := by omega
      have k1 : (k : Int) < 2 := by omega
      clear l0 l1 l2 l3 hno
      go_wp2_with fail
      refine (nb_Feed _ _ _ (FN.out _ HB.out)).mono ?_
      rintro e w100 ⟨rfl, hb⟩
      have HB2 : Hid (Below (w.heap.size + 2) W3 w100) := HB.out.trans (hb.mono (by have := HB.out.size; have := SZ3.out; omega))
      clear hb HB 
      have HB := Lib.hid HB2.out
      clear HB2
      go_wp2_with fail
      refine (nb_Shut _ _ (FN.out _ HB.out)).mono ?_
      rintro e w101 ⟨rfl, hb⟩
      have HB2 : Hid (Below (w.heap.size + 2) W3 w101) := HB.out.trans (hb.mono (by have := HB.out.size; have := SZ3.out; omega))
      clear hb HB 
      have HB := Lib.hid HB2.out
      clear HB2
      go_wp2_with fail
      refine (nb_Answer _ _ _ _ _ (FN.out _ HB.out)).mono ?_
      rintro e w102 ⟨rfl, hb⟩
      have HB2 : Hid (Below (w.heap.size + 2) W3 w102) := HB.out.trans (hb.mono (by have := HB.out.size; have := SZ3.out; omega))
      clear hb HB 
      have HB := Lib.hid HB2.out
      clear HB2
      go_wp2_with fail
      refine (nb_Out _ _ (FN.out _ HB.out)).mono ?_
      rintro e w103 ⟨rfl, hb⟩
      have HB2 : Hid (Below (w.heap.size + 2) W3 w103) := HB.out.trans (hb.mono (by have := HB.out.size; have := SZ3.out; omega))
      clear hb HB 
      have HB := Lib.hid HB2.out
      clear HB2
      go_wp2_with fail
      refine (nb_Ended _ _ (FN.out _ HB.out)).mono ?_
      rintro e w104 ⟨rfl, hb⟩
      have HB2 : Hid (Below (w.heap.size + 2) W3 w104) := HB.out.trans (hb.mono (by have := HB.out.size; have := SZ3.out; omega))
      clear hb HB 
      have HB := Lib.hid HB2.out
      clear HB2
      go_wp2_with fail
      refine (nb_Pending _ _ (FN.out _ HB.out)).mono ?_
      rintro e w105 ⟨rfl, hb⟩
      have HB2 : Hid (Below (w.heap.size + 2) W3 w105) := HB.out.trans (hb.mono (by have := HB.out.size; have := SZ3.out; omega))
      clear hb HB 
      have HB := Lib.hid HB2.out
      clear HB2
      go_wp2_with fail
      go_roundw
      case rel => exact ⟨k + 1, by omega, by go_num, HB.out⟩
      case measure => simp [intOf]; omega
    · go_wp2_with fail
      go_ret
      exact ⟨rfl, B3.out.trans (HB.out.mono (by omega))⟩
#print axioms nobody_walk
end Go.Proofs.YtddghmbcakmicaaGreatDoor.ConnN
