/-
  Layer 15: Write, Read.
-/
import Derived.Test.YtefcinifaaablaaSlabAbs
import Derived.OwnWalk
namespace Go.Proofs.Ytefcinifaaablaa.Slab
open Go.RowKit Go.Sep
set_option maxRecDepth 100000
set_option linter.unusedVariables false
set_option linter.unusedSimpArgs false

def u8s (l : List Int) : List Value := l.map (Value.int .u8)

/-- Bytes that are read somewhere: a slice value that leads to them. -/
structure Src (w : World) (so : Option Addr) (sn : Nat) (bs : List Int) : Prop where
  len : bs.length = sn
  cell : 0 < sn → ∃ b o, so = some ⟨b, o, none⟩ ∧ b < w.heap.size ∧ ∀ j, j < sn → w.cell? ⟨b, o + j, none⟩ = some (.int .u8 (bs.getD j 0))
theorem Src.grow {w w' : World} {so : Option Addr} {sn : Nat} {bs : List Int} (h : Src w so sn bs) (g : Below w.heap.size w w') : Src w' so sn bs := by
  refine ⟨h.len, fun hp => ?_⟩
  obtain ⟨b, o, h1, h2, h3⟩ := h.cell hp
  exact ⟨b, o, h1, Nat.lt_of_lt_of_le h2 g.size, fun j hj => (g.cell (p := ⟨b, o + j, none⟩) h2).trans (h3 j hj)⟩
theorem Src.zero {w : World} {so : Option Addr} : Src w so 0 [] := ⟨rfl, fun h => by omega⟩
theorem Src.load {w : World} {x : Addr} {sn : Nat} {bs : List Int} (h : Src w (some x) sn bs) : ∀ j v, (u8s bs)[j]? = some v → w.cell? (x.add j) = some v := by
  intro j v hv
  have hj : j < sn := by have := (List.getElem?_eq_some_iff.1 hv).1; simp [u8s, h.len] at this; exact this
  obtain ⟨b, o, h1, h2, h3⟩ := h.cell (by omega)
  simp at h1; subst h1
  rw [Addr.add_lit, h3 j hj]
  simp only [u8s, List.getElem?_map, Option.map_eq_some_iff] at hv
  obtain ⟨b, hb, rfl⟩ := hv
  simp [List.getD, hb]
theorem Src.first {w : World} {so : Option Addr} {sn sc : Nat} {bs : List Int} (h : Src w so sn bs) : (Builtin.firstCells 1 sn (.slice so sn sc)).run Try.prog w = .ok (u8s bs).toArray w := by
  cases so with
  | none =>
    have : sn = 0 := by
      rcases Nat.eq_zero_or_pos sn with h0 | h0
      · exact h0
      · obtain ⟨b, o, h1, _⟩ := h.cell h0; simp at h1
    have hl := h.len
    rw [this] at hl
    rw [run_firstCells_none]; simp [u8s, List.eq_nil_of_length_eq_zero hl]
  | some x => exact run_firstCells_some w 1 sn x sn sc (u8s bs) (by simp [u8s, h.len]) h.load

set_option maxHeartbeats 1000000 in
theorem write_core (a B c i len k d : Nat) (g : Int) (so : Option Addr) (sn sc : Nat) (loc : Nat) (w : World) (Q : World → Prop)
    (H : Hid (∀ W, Below w.heap.size w W → Calls Try.prog 73 #[.pointer (some ⟨a, 0, none⟩), hdl c i g] W fun e w' => e = .returned (.tuple #[.pointer (some ⟨B, i * 3, none⟩), .int .i64 0]) ∧ Below W.heap.size W w'))
    (CP : Hid (∀ W, Below w.heap.size w W → ∃ W1, (∀ ty, (Builtin.copy_ #[30, 30] ty #[.slice (some ⟨loc, d, none⟩) (len - k) (len - k), .slice so sn sc]).run Try.prog W = .ok (goInt sn) W1) ∧ Q W1))
    (h4 : w.cell? ⟨B, i * 3, none⟩ = some (.slice (some ⟨loc, 0, none⟩) len len)) (h7 : B < w.heap.size) (hlen : len ≤ 4096) (hk : (k < len ∧ d = k) ∨ (k = len ∧ d = 0)) (hsn : sn ≤ len - k) :
    Calls Try.prog 48 #[.pointer (some ⟨a, 0, none⟩), hdl c i g, .int .i64 k, .slice so sn sc] w fun e w' => e = .returned (.int .i64 0) ∧ Q w' := by
  have hbel : Below w.heap.size w (w.alloc (.cells #[.int .i64 c, .int .i64 i, .int .i64 g] 106)) := (Below.refl _ _).alloc (Nat.le_refl _) _
  have HC := Lib.hid (H.out _ hbel)
  have HBL := Lib.hid hbel
  have g1 : decide ((k : Int) < 0) = false := by simp
  have g2 : decide ((len : Int) < (k : Int)) = false := by simp; omega
  have g2' : decide (len < k) = false := by simp; omega
  have g3 : decide ((len : Int) - (k : Int) < (sn : Int)) = false := by simp; omega
  clear hbel H
  unfold hdl at *
  rcases hk with ⟨hk, rfl⟩ | ⟨rfl, rfl⟩
  · go_enter Try.func48, Try.ntmps48
    go_wp2_with (first | (go_at_call 73; refine (HC.out).mono ?_; rintro e w' ⟨rfl, hb⟩; have HB := Lib.hid hb; have h8 := (hb.cell (p := ⟨B, i * 3, none⟩) (by simp; omega)).trans ((World.cell?_alloc_lt _ _ ⟨B, i * 3, none⟩ h7).trans h4); clear hb h4) | (obtain ⟨w3, r1, r2⟩ := CP.out _ (HBL.out.trans (HB.out.mono (by simp))); have R2 := Lib.hid r2; with_reducible refine wpList_copy_run rfl _ _ _ rfl _ w3 (r1 _) ?_; clear r1 r2))
    go_ret
    exact ⟨rfl, R2.out⟩
  · simp only [Nat.sub_self] at CP
    go_enter Try.func48, Try.ntmps48
    go_wp2_with (first | (go_at_call 73; refine (HC.out).mono ?_; rintro e w' ⟨rfl, hb⟩; have HB := Lib.hid hb; have h8 := (hb.cell (p := ⟨B, i * 3, none⟩) (by simp; omega)).trans ((World.cell?_alloc_lt _ _ ⟨B, i * 3, none⟩ h7).trans h4); clear hb h4) | (obtain ⟨w3, r1, r2⟩ := CP.out _ (HBL.out.trans (HB.out.mono (by simp))); have R2 := Lib.hid r2; with_reducible refine wpList_copy_run rfl _ _ _ rfl _ w3 (r1 _) ?_; clear r1 r2))
    go_ret
    exact ⟨rfl, R2.out⟩

set_option maxHeartbeats 1000000 in
theorem write_no (a : Nat) (m : List Cls) (F : Asr) (w : World) (c i g at_ : Int) (sv : Value) (hf : Fit m) (hw : Holds w (arenaA a m * F)) (hr : right m c i g = false) :
    Calls Try.prog 48 #[.pointer (some ⟨a, 0, none⟩), hdl c i g, .int .i64 at_, sv] w fun e w' => e = .returned (.int .i64 15) ∧ Below w.heap.size w w' := by
  have hw1 := hw.alloc (.cells #[.int .i64 c, .int .i64 i, .int .i64 g] 106)
  rw [star_left_comm] at hw1
  have H := Lib.hid (at_no a m _ _ c i g hf hw1 hr)
  clear hr hw1 hw hf
  unfold hdl
  go_enter Try.func48, Try.ntmps48
  go_wp2_with (go_at_call 73; refine (H.out).mono ?_; rintro e w' ⟨rfl, hb⟩; have HB := Lib.hid hb; clear hb)
  go_ret
  exact ⟨rfl, (Below.alloc (Below.refl _ _) (by simp) _).trans (HB.out.mono (by simp))⟩

set_option maxHeartbeats 1000000 in
theorem write_arg (a B c i len : Nat) (g at_ : Int) (so : Option Addr) (sn sc : Nat) (loc : Nat) (w : World)
    (H : Hid (∀ W, Below w.heap.size w W → Calls Try.prog 73 #[.pointer (some ⟨a, 0, none⟩), hdl c i g] W fun e w' => e = .returned (.tuple #[.pointer (some ⟨B, i * 3, none⟩), .int .i64 0]) ∧ Below W.heap.size W w'))
    (h4 : w.cell? ⟨B, i * 3, none⟩ = some (.slice (some ⟨loc, 0, none⟩) len len)) (h7 : B < w.heap.size) (hlen : len ≤ 4096) (hk : at_ < 0 ∨ (len : Int) < at_ ∨ (0 ≤ at_ ∧ at_ ≤ len ∧ (len : Int) - at_ < sn)) :
    Calls Try.prog 48 #[.pointer (some ⟨a, 0, none⟩), hdl c i g, .int .i64 at_, .slice so sn sc] w fun e w' => e = .returned (.int .i64 2) ∧ Below w.heap.size w w' := by
  have hbel : Below w.heap.size w (w.alloc (.cells #[.int .i64 c, .int .i64 i, .int .i64 g] 106)) := (Below.refl _ _).alloc (Nat.le_refl _) _
  have HC := Lib.hid (H.out _ hbel)
  clear hbel H
  unfold hdl at *
  rcases hk with hk | hk | ⟨hk, hk2, hk3⟩
  · have g1 : decide (at_ < 0) = true := by simp; omega
    go_enter Try.func48, Try.ntmps48
    go_wp2_with (first | (go_at_call 73; refine (HC.out).mono ?_; rintro e w' ⟨rfl, hb⟩; have HB := Lib.hid hb; have h8 := (hb.cell (p := ⟨B, i * 3, none⟩) (by simp; omega)).trans ((World.cell?_alloc_lt _ _ ⟨B, i * 3, none⟩ h7).trans h4); clear hb h4))
    go_ret
    exact ⟨rfl, (Below.alloc (Below.refl _ _) (by simp) _).trans (HB.out.mono (by simp))⟩
  · have g1 : decide (at_ < 0) = false := by simp; omega
    have g2 : decide ((len : Int) < at_) = true := by simp; omega
    go_enter Try.func48, Try.ntmps48
    go_wp2_with (first | (go_at_call 73; refine (HC.out).mono ?_; rintro e w' ⟨rfl, hb⟩; have HB := Lib.hid hb; have h8 := (hb.cell (p := ⟨B, i * 3, none⟩) (by simp; omega)).trans ((World.cell?_alloc_lt _ _ ⟨B, i * 3, none⟩ h7).trans h4); clear hb h4))
    go_ret
    exact ⟨rfl, (Below.alloc (Below.refl _ _) (by simp) _).trans (HB.out.mono (by simp))⟩
  · have g1 : decide (at_ < 0) = false := by simp; omega
    have g2 : decide ((len : Int) < at_) = false := by simp; omega
    have g3 : decide ((len : Int) - at_ < (sn : Int)) = true := by simp; omega
    go_enter Try.func48, Try.ntmps48
    go_wp2_with (first | (go_at_call 73; refine (HC.out).mono ?_; rintro e w' ⟨rfl, hb⟩; have HB := Lib.hid hb; have h8 := (hb.cell (p := ⟨B, i * 3, none⟩) (by simp; omega)).trans ((World.cell?_alloc_lt _ _ ⟨B, i * 3, none⟩ h7).trans h4); clear hb h4))
    go_ret
    exact ⟨rfl, (Below.alloc (Below.refl _ _) (by simp) _).trans (HB.out.mono (by simp))⟩
end Go.Proofs.Ytefcinifaaablaa.Slab
