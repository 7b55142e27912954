/-
  Layer 15: Read.
-/
import Derived.Test.YtefcinifaaablaaSlabRW
namespace Go.Proofs.Ytefcinifaaablaa.Slab
open Go.RowKit Go.Sep
set_option maxRecDepth 100000
set_option linter.unusedVariables false
set_option linter.unusedSimpArgs false

theorem infoU8 : (Try.prog.info? 5).map (fun i => (i.zero, i.size, i.bytes)) = some (some (.int .u8 0), 1, 1) := by kernel_rfl

def ReadOk (n : Nat) (bs : List Int) (F : Asr) (w : World) (e : Ending) (w' : World) : Prop :=
  ∃ v, e = .returned (.tuple #[v, .int .i64 0]) ∧ Holds w' (rowA 5 1 v n (u8s bs) * F) ∧ Sm w w'

set_option maxHeartbeats 1000000 in
theorem read_core (a B c i len k n : Nat) (g : Int) (loc : Nat) (w : World) (F : Asr) (bs : List Int)
    (H : Hid (∀ W, Below w.heap.size w W → Calls Try.prog 73 #[.pointer (some ⟨a, 0, none⟩), hdl c i g] W fun e w' => e = .returned (.tuple #[.pointer (some ⟨B, i * 3, none⟩), .int .i64 0]) ∧ Below W.heap.size W w'))
    (hF : Hid (Holds w F)) (hcell : Hid (∀ j, j < len → w.cell? ⟨loc, j, none⟩ = some (.int .u8 (bs.getD j 0)))) (hbs : Hid (bs.length = len)) (hloc : loc < w.heap.size)
    (h4 : w.cell? ⟨B, i * 3, none⟩ = some (.slice (some ⟨loc, 0, none⟩) len len)) (h7 : B < w.heap.size) (hlen : len ≤ 4096) (hk : k ≤ len) (hn : k + n ≤ len) :
    Calls Try.prog 50 #[.pointer (some ⟨a, 0, none⟩), hdl c i g, .int .i64 k, .int .i64 n] w (ReadOk n ((bs.drop k).take n) F w) := by
  have hbel : Below w.heap.size w (w.alloc (.cells #[.int .i64 c, .int .i64 i, .int .i64 g] 106)) := (Below.refl _ _).alloc (Nat.le_refl _) _
  have HC := Lib.hid (H.out _ hbel)
  have HBL := Lib.hid hbel
  have g1 : decide ((k : Int) < 0) = false := by simp
  have g1' : decide ((n : Int) < 0) = false := by simp
  have g2 : decide ((len : Int) < (k : Int)) = false := by simp; omega
  have g2' : decide (len < k) = false := by simp; omega
  have g3 : decide ((len : Int) - (k : Int) < (n : Int)) = false := by simp; omega
  have hnews : Hid ((u8s ((bs.drop k).take n)).length = n) := by
    show _ = _; simp [u8s, hbs.out]; omega
  clear hbel H
  unfold hdl at *
  have hcs : (k < len) ∨ (k = len ∧ n = 0) := by omega
  rcases hcs with hk' | ⟨rfl, rfl⟩
  · go_enter Try.func50, Try.ntmps50
    go_wp2_with (first | (go_at_call 73; refine (HC.out).mono ?_; rintro e w' ⟨rfl, hb⟩; have HB := Lib.hid hb; have hz : B < w'.heap.size := (by have := hb.size; simp at this; omega); have h8 := (hb.cell (p := ⟨B, i * 3, none⟩) (by simp; omega)).trans ((World.cell?_alloc_lt _ _ ⟨B, i * 3, none⟩ h7).trans h4); clear hb h4) | (at_builtin; refine wpList_append_sep rfl _ _ 30 rfl 5 (.int .u8 0) 1 1 Try.underlying30 infoU8 rfl (v := .slice (some ⟨w'.heap.size, 0, none⟩) 0 0) (n := 0) (xs := []) rfl (rowA_mk' (n := 0) (cap := 0) (((hF.out.grow (HBL.out.trans (HB.out.mono (by simp)))).alloc _)) (Nat.le_refl _) (by simp [maxLen]) rfl rfl) ⟨loc, k, none⟩ (k + n - k) (len - k) (u8s ((bs.drop k).take n)) rfl (by rw [Nat.mul_one, Nat.add_sub_cancel_left]; exact hnews.out) ?_ (by intro u hu; obtain ⟨x, -, rfl⟩ := List.mem_map.1 hu; rfl) (by simp [maxLen]; omega) (by omega) ?_))
    · intro j u hu
      have hj : j < n := by have := (List.getElem?_eq_some_iff.1 hu).1; rw [hnews.out] at this; exact this
      rw [Addr.add_lit, World.cell?_alloc_lt _ _ _ (by have := HB.out.size; simp at this ⊢; omega), HB.out.cell (by simp; omega), World.cell?_alloc_lt _ _ _ hloc, hcell.out _ (by omega)]
      simp only [u8s, List.getElem?_map, Option.map_eq_some_iff] at hu
      obtain ⟨b, hb, rfl⟩ := hu
      rw [List.getElem?_take, if_pos hj, List.getElem?_drop] at hb
      simp [List.getD, hb]
    · intro v' w9 h9 s9 _
      have H9 := Lib.hid h9
      have S9 : Hid (Sm w w9) := (((Sm.of_below HBL.out).grow HB.out).alloc _).trans s9
      clear h9 s9
      go_wp2_with fail
      go_ret2
      exact ⟨v', rfl, by have := H9.out; simpa [Nat.add_sub_cancel_left] using this, S9.out⟩
  · go_enter Try.func50, Try.ntmps50
    go_wp2_with (first | (go_at_call 73; refine (HC.out).mono ?_; rintro e w' ⟨rfl, hb⟩; have HB := Lib.hid hb; have hz : B < w'.heap.size := (by have := hb.size; simp at this; omega); have h8 := (hb.cell (p := ⟨B, i * 3, none⟩) (by simp; omega)).trans ((World.cell?_alloc_lt _ _ ⟨B, i * 3, none⟩ h7).trans h4); clear hb h4))
    refine bodyPost_ret (results_tmp2 rfl _ _ _) rfl ?_
    have hr := rowA_mk' (T := 5) (sz := 1) (n := 0) (cap := 0) (xs := []) (((hF.out.grow (HBL.out.trans (HB.out.mono (by simp)))).alloc (.cells #[] 5))) (Nat.le_refl _) (by simp [maxLen]) rfl rfl
    exact ⟨_, rfl, by simpa [u8s] using hr, ((Sm.of_below HBL.out).grow HB.out).alloc _⟩
set_option maxHeartbeats 1000000 in
theorem read_no (a : Nat) (m : List Cls) (F : Asr) (w : World) (c i g at_ n : Int) (hf : Fit m) (hw : Holds w (arenaA a m * F)) (hr : right m c i g = false) :
    Calls Try.prog 50 #[.pointer (some ⟨a, 0, none⟩), hdl c i g, .int .i64 at_, .int .i64 n] w fun e w' => e = .returned (.tuple #[.slice none 0 0, .int .i64 15]) ∧ Below w.heap.size w w' := by
  have hw1 := hw.alloc (.cells #[.int .i64 c, .int .i64 i, .int .i64 g] 106)
  rw [star_left_comm] at hw1
  have H := Lib.hid (at_no a m _ _ c i g hf hw1 hr)
  clear hr hw1 hw hf
  unfold hdl
  go_enter Try.func50, Try.ntmps50
  go_wp2_with (go_at_call 73; refine (H.out).mono ?_; rintro e w' ⟨rfl, hb⟩; have HB := Lib.hid hb; clear hb)
  go_ret2
  exact ⟨rfl, (Below.alloc (Below.refl _ _) (by simp) _).trans (HB.out.mono (by simp))⟩

set_option maxHeartbeats 1000000 in
theorem read_arg (a B c i len : Nat) (g at_ n : Int) (loc : Nat) (w : World)
    (H : Hid (∀ W, Below w.heap.size w W → Calls Try.prog 73 #[.pointer (some ⟨a, 0, none⟩), hdl c i g] W fun e w' => e = .returned (.tuple #[.pointer (some ⟨B, i * 3, none⟩), .int .i64 0]) ∧ Below W.heap.size W w'))
    (h4 : w.cell? ⟨B, i * 3, none⟩ = some (.slice (some ⟨loc, 0, none⟩) len len)) (h7 : B < w.heap.size) (hlen : len ≤ 4096) (hk : at_ < 0 ∨ (0 ≤ at_ ∧ n < 0) ∨ (0 ≤ n ∧ (len : Int) < at_) ∨ (0 ≤ at_ ∧ at_ ≤ len ∧ 0 ≤ n ∧ (len : Int) - at_ < n)) :
    Calls Try.prog 50 #[.pointer (some ⟨a, 0, none⟩), hdl c i g, .int .i64 at_, .int .i64 n] w fun e w' => e = .returned (.tuple #[.slice none 0 0, .int .i64 2]) ∧ Below w.heap.size w w' := by
  have hbel : Below w.heap.size w (w.alloc (.cells #[.int .i64 c, .int .i64 i, .int .i64 g] 106)) := (Below.refl _ _).alloc (Nat.le_refl _) _
  have HC := Lib.hid (H.out _ hbel)
  clear hbel H
  unfold hdl at *
  rcases hk with hk | ⟨hk, hk1⟩ | ⟨hk1, hk⟩ | ⟨hk, hk1, hk2, hk3⟩
  · have g1 : decide (at_ < 0) = true := by simp; omega
    go_enter Try.func50, Try.ntmps50
    go_wp2_with (first | (go_at_call 73; refine (HC.out).mono ?_; rintro e w' ⟨rfl, hb⟩; have HB := Lib.hid hb; have h8 := (hb.cell (p := ⟨B, i * 3, none⟩) (by simp; omega)).trans ((World.cell?_alloc_lt _ _ ⟨B, i * 3, none⟩ h7).trans h4); clear hb h4))
    go_ret2
    exact ⟨rfl, (Below.alloc (Below.refl _ _) (by simp) _).trans (HB.out.mono (by simp))⟩
  · have g1 : decide (at_ < 0) = false := by simp; omega
    have g0 : decide (n < 0) = true := by simp; omega
    go_enter Try.func50, Try.ntmps50
    go_wp2_with (first | (go_at_call 73; refine (HC.out).mono ?_; rintro e w' ⟨rfl, hb⟩; have HB := Lib.hid hb; have h8 := (hb.cell (p := ⟨B, i * 3, none⟩) (by simp; omega)).trans ((World.cell?_alloc_lt _ _ ⟨B, i * 3, none⟩ h7).trans h4); clear hb h4))
    go_ret2
    exact ⟨rfl, (Below.alloc (Below.refl _ _) (by simp) _).trans (HB.out.mono (by simp))⟩
  · have g1 : decide (at_ < 0) = false := by simp; omega
    have g0 : decide (n < 0) = false := by simp; omega
    have g2 : decide ((len : Int) < at_) = true := by simp; omega
    go_enter Try.func50, Try.ntmps50
    go_wp2_with (first | (go_at_call 73; refine (HC.out).mono ?_; rintro e w' ⟨rfl, hb⟩; have HB := Lib.hid hb; have h8 := (hb.cell (p := ⟨B, i * 3, none⟩) (by simp; omega)).trans ((World.cell?_alloc_lt _ _ ⟨B, i * 3, none⟩ h7).trans h4); clear hb h4))
    go_ret2
    exact ⟨rfl, (Below.alloc (Below.refl _ _) (by simp) _).trans (HB.out.mono (by simp))⟩
  · have g1 : decide (at_ < 0) = false := by simp; omega
    have g0 : decide (n < 0) = false := by simp; omega
    have g2 : decide ((len : Int) < at_) = false := by simp; omega
    have g3 : decide ((len : Int) - at_ < n) = true := by simp; omega
    go_enter Try.func50, Try.ntmps50
    go_wp2_with (first | (go_at_call 73; refine (HC.out).mono ?_; rintro e w' ⟨rfl, hb⟩; have HB := Lib.hid hb; have h8 := (hb.cell (p := ⟨B, i * 3, none⟩) (by simp; omega)).trans ((World.cell?_alloc_lt _ _ ⟨B, i * 3, none⟩ h7).trans h4); clear hb h4))
    go_ret2
    exact ⟨rfl, (Below.alloc (Below.refl _ _) (by simp) _).trans (HB.out.mono (by simp))⟩

end Go.Proofs.Ytefcinifaaablaa.Slab
