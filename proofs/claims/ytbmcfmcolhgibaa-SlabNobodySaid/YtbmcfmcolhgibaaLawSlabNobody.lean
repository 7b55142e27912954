/-
  SlabNobody: the calls of an arena that no call made, and the walk.
-/
import Derived.Test.YtbmcfmcolhgibaaSlabHold
import Derived.OwnWalk
namespace Go.Proofs.Ytbmcfmcolhgibaa.Slab
open Go.RowKit Go.Sep
set_option maxRecDepth 100000
set_option linter.unusedVariables false
set_option linter.unusedSimpArgs false

def Nobody (w : World) (p : Option Addr) : Prop := p = none ∨ ∃ a, p = some ⟨a, 0, none⟩ ∧ w.cell? ⟨a, 0, none⟩ = some (.bool false) ∧ a < w.heap.size
theorem Nobody.grow {w w' : World} {p : Option Addr} (h : Nobody w p) (g : Below w.heap.size w w') : Nobody w' p := by
  rcases h with h | ⟨a, h1, h2, h3⟩
  · exact .inl h
  · exact .inr ⟨a, h1, (g.cell (p := ⟨a, 0, none⟩) h3).trans h2, Nat.lt_of_lt_of_le h3 g.size⟩

theorem nobody_none (p : Option Addr) (w : World) (h : Nobody w p) : Calls Try.prog 50 #[.pointer p] w fun e w' => e = .returned (.bool true) ∧ w = w' := by
  rcases h with rfl | ⟨a, rfl, h2, h3⟩
  · go_enter Try.func50, Try.ntmps50
    go_wp2
    go_ret
    exact ⟨rfl, rfl⟩
  · go_enter Try.func50, Try.ntmps50
    go_wp2
    go_ret
    exact ⟨rfl, rfl⟩
theorem box_below (w : World) (o : Obj) : Below w.heap.size w (w.alloc o) := (Below.refl _ _).alloc (Nat.le_refl _) _

theorem nobody_alloc (p : Option Addr) (n : Int) (w : World) (h : Nobody w p) : Calls Try.prog 17 #[.pointer p, .int .i64 n] w fun e w' => e = .returned (.tuple #[hdl 0 0 0, .int .i64 1]) ∧ Below w.heap.size w w' := by
  have H := Lib.hid (fun o => nobody_none p (w.alloc o) (h.grow (box_below w o)))
  clear h
  go_enter Try.func17, Try.ntmps17
  go_wp2_with (go_at_call 50; refine (H.out _).mono ?_; rintro e w' ⟨rfl, rfl⟩)
  exact bodyPost_ret (v := .tuple #[hdl 0 0 0, .int .i64 1]) (by simp [results, Try.results17, go_sem, hdl]) rfl ⟨rfl, (Below.refl _ _).alloc (Nat.le_refl _) _⟩
theorem nobody_at (p : Option Addr) (c i g : Int) (w : World) (h : Nobody w p) : Calls Try.prog 54 #[.pointer p, hdl c i g] w fun e w' => e = .returned (.tuple #[.pointer none, .int .i64 1]) ∧ Below w.heap.size w w' := by
  have H := Lib.hid (fun o => nobody_none p (w.alloc o) (h.grow (box_below w o)))
  clear h
  unfold hdl
  go_enter Try.func54, Try.ntmps54
  go_wp2_with (go_at_call 50; refine (H.out _).mono ?_; rintro e w' ⟨rfl, rfl⟩)
  go_ret2
  exact ⟨rfl, box_below _ _⟩
theorem nobody_hold (p : Option Addr) (c i g : Int) (w : World) (h : Nobody w p) : Calls Try.prog 22 #[.pointer p, hdl c i g] w fun e w' => e = .returned (.int .i64 1) ∧ Below w.heap.size w w' := by
  have H := Lib.hid (nobody_at p c i g _ (h.grow (box_below w (.cells #[.int .i64 c, .int .i64 i, .int .i64 g] 36))))
  clear h
  unfold hdl at *
  go_enter Try.func22, Try.ntmps22
  go_wp2_with (go_at_call 54; refine (H.out).mono ?_; rintro e w' ⟨rfl, hb⟩; have HB := Lib.hid hb; clear hb)
  go_ret
  exact ⟨rfl, (box_below _ _).trans (HB.out.mono (by simp))⟩
theorem nobody_drop (p : Option Addr) (c i g : Int) (w : World) (h : Nobody w p) : Calls Try.prog 20 #[.pointer p, hdl c i g] w fun e w' => e = .returned (.int .i64 1) ∧ Below w.heap.size w w' := by
  have H := Lib.hid (nobody_at p c i g _ (h.grow (box_below w (.cells #[.int .i64 c, .int .i64 i, .int .i64 g] 36))))
  clear h
  unfold hdl at *
  go_enter Try.func20, Try.ntmps20
  go_wp2_with (go_at_call 54; refine (H.out).mono ?_; rintro e w' ⟨rfl, hb⟩; have HB := Lib.hid hb; clear hb)
  go_ret
  exact ⟨rfl, (box_below _ _).trans (HB.out.mono (by simp))⟩
theorem nobody_held (p : Option Addr) (c i g : Int) (w : World) (h : Nobody w p) : Calls Try.prog 21 #[.pointer p, hdl c i g] w fun e w' => e = .returned (.int .i64 0) ∧ Below w.heap.size w w' := by
  have H := Lib.hid (nobody_at p c i g _ (h.grow (box_below w (.cells #[.int .i64 c, .int .i64 i, .int .i64 g] 36))))
  clear h
  unfold hdl at *
  go_enter Try.func21, Try.ntmps21
  go_wp2_with (go_at_call 54; refine (H.out).mono ?_; rintro e w' ⟨rfl, hb⟩; have HB := Lib.hid hb; clear hb)
  go_ret
  exact ⟨rfl, (box_below _ _).trans (HB.out.mono (by simp))⟩
theorem nobody_write (p : Option Addr) (c i g : Int) (at_ : Int) (b : Value) (w : World) (h : Nobody w p) : Calls Try.prog 24 #[.pointer p, hdl c i g, .int .i64 at_, b] w fun e w' => e = .returned (.int .i64 1) ∧ Below w.heap.size w w' := by
  have H := Lib.hid (nobody_at p c i g _ (h.grow (box_below w (.cells #[.int .i64 c, .int .i64 i, .int .i64 g] 36))))
  clear h
  unfold hdl at *
  go_enter Try.func24, Try.ntmps24
  go_wp2_with (go_at_call 54; refine (H.out).mono ?_; rintro e w' ⟨rfl, hb⟩; have HB := Lib.hid hb; clear hb)
  go_ret
  exact ⟨rfl, (box_below _ _).trans (HB.out.mono (by simp))⟩
theorem nobody_read (p : Option Addr) (c i g : Int) (at_ n : Int) (w : World) (h : Nobody w p) : Calls Try.prog 23 #[.pointer p, hdl c i g, .int .i64 at_, .int .i64 n] w fun e w' => e = .returned (.tuple #[.slice none 0 0, .int .i64 1]) ∧ Below w.heap.size w w' := by
  have H := Lib.hid (nobody_at p c i g _ (h.grow (box_below w (.cells #[.int .i64 c, .int .i64 i, .int .i64 g] 36))))
  clear h
  unfold hdl at *
  go_enter Try.func23, Try.ntmps23
  go_wp2_with (go_at_call 54; refine (H.out).mono ?_; rintro e w' ⟨rfl, hb⟩; have HB := Lib.hid hb; clear hb)
  go_ret2
  exact ⟨rfl, (box_below _ _).trans (HB.out.mono (by simp))⟩
theorem nobody_live (p : Option Addr) (c : Int) (w : World) (h : Nobody w p) : Calls Try.prog 19 #[.pointer p, .int .i64 c] w fun e w' => e = .returned (.int .i64 0) ∧ Below w.heap.size w w' := by
  have H := Lib.hid (nobody_none p w h)
  clear h
  go_enter Try.func19, Try.ntmps19
  go_wp2_with (go_at_call 50; refine (H.out).mono ?_; rintro e w' ⟨rfl, rfl⟩)
  go_ret
  exact ⟨rfl, Below.refl _ _⟩

set_option maxHeartbeats 4000000 in
theorem nobody_walk (c i g : Int) (w : World) :
    Calls Try.prog 6 #[hdl c i g] w fun e w' => e = .returned (.bool true) ∧ Below w.heap.size w w' := by
  obtain ⟨W3, hW3⟩ : ∃ W3, W3 = ((w.alloc (.cells #[.int .i64 c, .int .i64 i, .int .i64 g] 36)).alloc (.cells #[.bool false, .slice none 0 0, .slice none 0 0, .slice none 0 0, .slice none 0 0] 47)).alloc (.cells #[.pointer none, .pointer (some ⟨w.heap.size + 1, 0, none⟩)] 30) := ⟨_, rfl⟩
  have hsz : W3.heap.size = w.heap.size + 3 := by rw [hW3]; simp
  have hfc : ∀ wq, Below (w.heap.size + 3) W3 wq → wq.cell? ⟨w.heap.size, 0, none⟩ = some (.int .i64 c) ∧ wq.cell? ⟨w.heap.size, 1, none⟩ = some (.int .i64 i) ∧ wq.cell? ⟨w.heap.size, 2, none⟩ = some (.int .i64 g) := by
    intro wq hq
    have h : ∀ j, W3.cell? ⟨w.heap.size, j, none⟩ = #[Value.int .i64 c, .int .i64 i, .int .i64 g][j]? := by
      intro j; rw [hW3, World.cell?_alloc_lt _ _ _ (by simp; omega), World.cell?_alloc_lt _ _ _ (by simp), World.cell?_alloc_new]
    exact ⟨(hq.cell (p := ⟨w.heap.size, 0, none⟩) (by simp)).trans (h 0), (hq.cell (p := ⟨w.heap.size, 1, none⟩) (by simp)).trans (h 1), (hq.cell (p := ⟨w.heap.size, 2, none⟩) (by simp)).trans (h 2)⟩
  have hfl : ∀ wq, Below (w.heap.size + 3) W3 wq → wq.cell? ⟨w.heap.size + 2, 0, none⟩ = some (.pointer none) ∧ wq.cell? ⟨w.heap.size + 2, 1, none⟩ = some (.pointer (some ⟨w.heap.size + 1, 0, none⟩)) ∧ wq.cell? ⟨w.heap.size + 1, 0, none⟩ = some (.bool false) ∧ w.heap.size + 1 < wq.heap.size := by
    intro wq hq
    have h : ∀ j, W3.cell? ⟨w.heap.size + 2, j, none⟩ = #[Value.pointer none, .pointer (some ⟨w.heap.size + 1, 0, none⟩)][j]? := by
      intro j
      rw [hW3]
      exact World.cell?_alloc_at _ _ _ j (by simp)
    have h' : W3.cell? ⟨w.heap.size + 1, 0, none⟩ = some (.bool false) := by
      rw [hW3, World.cell?_alloc_lt _ _ _ (by simp)]
      rw [World.cell?_alloc_at _ _ _ 0 (by simp)]; rfl
    exact ⟨(hq.cell (p := ⟨w.heap.size + 2, 0, none⟩) (by simp)).trans (h 0), (hq.cell (p := ⟨w.heap.size + 2, 1, none⟩) (by simp)).trans (h 1), (hq.cell (p := ⟨w.heap.size + 1, 0, none⟩) (by simp)).trans h', by have := hq.size; omega⟩
  have hb3 : Below w.heap.size w W3 := by rw [hW3]; exact (((Below.refl _ _).alloc (Nat.le_refl _) _).alloc (by simp) _).alloc (by simp; omega) _
  have FC := Lib.hid hfc
  have FL := Lib.hid hfl
  have B3 := Lib.hid hb3
  have W3E := Lib.hid hW3
  have SZ3 := Lib.hid hsz
  clear hfc hfl hb3 hW3 hsz
  unfold hdl
  go_enter Try.func6, Try.ntmps6
  go_wp2_with fail
  go_goals
  go_loopw [13] (fun i wr => ∃ k : Nat, k ≤ 2 ∧ i = .int .i64 k ∧ Hid (Below (w.heap.size + 3) W3 wr)) (fun i _ => 2 - (intOf i).toNat)
  case atStart => exact ⟨0, by omega, rfl, by rw [W3E.out]; exact Below.refl _ _⟩
  case round =>
    obtain ⟨k, hk, rfl, HB⟩ := hrel
    by_cases hlt : k < 2
    · obtain ⟨f0, f1, f2⟩ := FC.out _ HB.out
      obtain ⟨l0, l1, l2, l3⟩ := FL.out _ HB.out
      have hp : ∃ p : Option Addr, wr.cell? ⟨w.heap.size + 2, k, none⟩ = some (.pointer p) ∧ ∀ wq, Below (w.heap.size + 3) W3 wq → Nobody wq p := by
        have : k = 0 ∨ k = 1 := by omega
        rcases this with rfl | rfl
        · exact ⟨_, l0, fun _ _ => .inl rfl⟩
        · refine ⟨_, l1, fun wq hq => ?_⟩
          obtain ⟨-, -, q2, q3⟩ := FL.out wq hq
          exact .inr ⟨_, rfl, q2, q3⟩
      obtain ⟨p, hp, hno⟩ := hp
      have FN := Lib.hid hno
      have k0 : (0 : Int) ≤ (k : Int) := by omega
      have k1 : (k : Int) < 2 := by omega
      clear l0 l1 l2 l3 hno
      go_wp2_with fail
      refine (nobody_alloc _ _ _ (FN.out _ HB.out)).mono ?_
      rintro e w9 ⟨rfl, hb⟩
      have HB' : Hid (Below (w.heap.size + 3) W3 (w9.alloc (.cells #[.int .i64 0, .int .i64 0, .int .i64 0] 36))) := (HB.out.trans (hb.mono (by have := HB.out.size; have := SZ3.out; omega))).alloc (by have := HB.out.size; have := SZ3.out; have := hb.size; omega) _
      have f3 := fun j => World.cell?_alloc_new w9 #[.int .i64 0, .int .i64 0, .int .i64 0] 36 j
      clear hb HB f0 f1 f2
      obtain ⟨f0, f1, f2⟩ := FC.out _ HB'.out
      simp only [hdl]
      go_wp2_with fail
      refine (nobody_read _ _ _ _ _ _ _ (FN.out _ HB'.out)).mono ?_
      rintro e w10 ⟨rfl, hb⟩
      have HB2 : Hid (Below (w.heap.size + 3) W3 w10) := HB'.out.trans (hb.mono (by have := HB'.out.size; have := SZ3.out; omega))
      have x0 := (hb.cell (p := ⟨w9.heap.size, 0, none⟩) (by simp)).trans (f3 0)
      have x1 := (hb.cell (p := ⟨w9.heap.size, 1, none⟩) (by simp)).trans (f3 1)
      have x2 := (hb.cell (p := ⟨w9.heap.size, 2, none⟩) (by simp)).trans (f3 2)
      simp only [List.getElem?_toArray, List.getElem?_cons_zero, List.getElem?_cons_succ] at x0 x1 x2
      clear hb HB' f0 f1 f2 f3
      obtain ⟨f0, f1, f2⟩ := FC.out _ HB2.out
      have HB' := Lib.hid HB2.out
      clear HB2
      go_wp2_with fail
      refine (nobody_hold _ _ _ _ _ (FN.out _ HB'.out)).mono ?_
      rintro e w11 ⟨rfl, hb⟩
      have HB2 : Hid (Below (w.heap.size + 3) W3 w11) := HB'.out.trans (hb.mono (by have := HB'.out.size; have := SZ3.out; omega))
      clear hb HB' f0 f1 f2
      obtain ⟨f0, f1, f2⟩ := FC.out _ HB2.out
      have HB' := Lib.hid HB2.out
      clear HB2
      clear x0 x1 x2
      go_wp2_with fail
      refine (nobody_drop _ _ _ _ _ (FN.out _ HB'.out)).mono ?_
      rintro e w12 ⟨rfl, hb⟩
      have HB2 : Hid (Below (w.heap.size + 3) W3 w12) := HB'.out.trans (hb.mono (by have := HB'.out.size; have := SZ3.out; omega))
      clear hb HB' f0 f1 f2
      obtain ⟨f0, f1, f2⟩ := FC.out _ HB2.out
      have HB' := Lib.hid HB2.out
      clear HB2
      go_wp2_with fail
      refine (nobody_write _ _ _ _ _ _ _ (FN.out _ HB'.out)).mono ?_
      rintro e w13 ⟨rfl, hb⟩
      have HB2 : Hid (Below (w.heap.size + 3) W3 w13) := HB'.out.trans (hb.mono (by have := HB'.out.size; have := SZ3.out; omega))
      clear hb HB' f0 f1 f2
      obtain ⟨f0, f1, f2⟩ := FC.out _ HB2.out
      have HB' := Lib.hid HB2.out
      clear HB2
      go_wp2_with fail
      refine (nobody_held _ _ _ _ _ (FN.out _ HB'.out)).mono ?_
      rintro e w14 ⟨rfl, hb⟩
      have HB2 : Hid (Below (w.heap.size + 3) W3 w14) := HB'.out.trans (hb.mono (by have := HB'.out.size; have := SZ3.out; omega))
      clear hb HB' f0 f1 f2
      obtain ⟨f0, f1, f2⟩ := FC.out _ HB2.out
      have HB' := Lib.hid HB2.out
      clear HB2
      go_wp2_with fail
      refine (nobody_live _ _ _ (FN.out _ HB'.out)).mono ?_
      rintro e w15 ⟨rfl, hb⟩
      have HB2 : Hid (Below (w.heap.size + 3) W3 w15) := HB'.out.trans (hb.mono (by have := HB'.out.size; have := SZ3.out; omega))
      clear hb HB' f0 f1 f2
      obtain ⟨f0, f1, f2⟩ := FC.out _ HB2.out
      have HB' := Lib.hid HB2.out
      clear HB2
      go_wp2_with fail
      go_roundw
      case rel => exact ⟨k + 1, by omega, by go_num, HB'.out⟩
      case measure => simp [intOf]; omega
    · have SZ := Lib.hid (sizes_calls 0 wr)
      go_wp2_with fail
      refine (SZ.out).mono ?_
      rintro e w9 ⟨rfl, rfl⟩
      simp only [szOf]
      go_wp2_with fail
      go_ret
      exact ⟨rfl, B3.out.trans (HB.out.mono (by omega))⟩
#print axioms nobody_walk
end Go.Proofs.Ytbmcfmcolhgibaa.Slab
