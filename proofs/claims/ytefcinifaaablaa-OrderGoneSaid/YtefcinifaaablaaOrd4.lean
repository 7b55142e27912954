/-
  Layer 27: lookup.
-/
import Derived.Test.YtefcinifaaablaaOrd3
import Derived.BigQuiet
namespace Go.Proofs.Ytefcinifaaablaa.Ord
open Go.RowKit Go.Sep
set_option maxRecDepth 100000
set_option linter.unusedVariables false
set_option linter.unusedSimpArgs false

structure StF (w : World) (s ma mh : Nat) (x : Option Int) (l : Int) : Prop where
  c0 : w.cell? ⟨s, 0, none⟩ = some (.map (some ma))
  c1 : w.cell? ⟨s, 1, none⟩ = some (.map (some mh))
  c2 : w.cell? ⟨s, 2, none⟩ = some (.int .i64 l)
  a : match x with
    | none => (∃ c, w.heap[ma]? = some (.map #[] c)) ∧ ∃ c, w.heap[mh]? = some (.map #[] c)
    | some z => (∃ b c, b < c ∧ w.heap[ma]? = some (.map #[⟨.agg #[.int .i64 1, .string ⟨#[47, 107]⟩, .string ⟨#[]⟩], .int .i64 z, b⟩] c)) ∧ ∃ b c, b < c ∧ w.heap[mh]? = some (.map #[⟨.agg #[.int .i64 1, .int .i64 z], .agg #[.int .i64 1, .string ⟨#[47, 107]⟩, .string ⟨#[]⟩, .string ⟨#[]⟩], b⟩] c)
theorem stF_of {s : Nat} {x : Option Int} {l : Int} {F : Asr} {w : World} (h : Holds w (stA s x l * F)) : ∃ ma mh, StF w s ma mh x l := by
  obtain ⟨ma, mh, h1⟩ := st_open h
  have q0 := h1.cell 0
  have q1 := h1.cell 1
  have q2 := h1.cell 2
  simp at q0 q1 q2
  refine ⟨ma, mh, q0, q1, q2, ?_⟩
  cases x with
  | none =>
    simp only [Option.toList, List.map] at h1
    obtain ⟨c, e⟩ := mapA_zero (h1.eqv (star_left_comm _ _ _))
    obtain ⟨c2, e2⟩ := mapA_zero (h1.eqv (by ac_rfl : _ = mapA wE vE okZ mh [] * (pts s (.cells #[.map (some ma), .map (some mh), .int .i64 l] 127 (0, 0)) * (mapA pE iE okU ma [] * F))))
    exact ⟨⟨c, e.at⟩, ⟨c2, e2.at⟩⟩
  | some z =>
    simp only [Option.toList, List.map] at h1
    obtain ⟨b, c, hb, e⟩ := mapA_one (h1.eqv (star_left_comm _ _ _))
    obtain ⟨b2, c2, hb2, e2⟩ := mapA_one (h1.eqv (by ac_rfl : _ = mapA wE vE okZ mh [(z, ())] * (pts s (.cells #[.map (some ma), .map (some mh), .int .i64 l] 127 (0, 0)) * (mapA pE iE okU ma [((), z)] * F))))
    exact ⟨⟨b, c, hb, e.at⟩, ⟨b2, c2, hb2, e2.at⟩⟩
set_option maxHeartbeats 4000000 in
theorem lookup_pos (s ma mh : Nat) (z q l : Int) (hq : 0 < q) (w : World) (h : StF w s ma mh (some z) l) :
    Calls Try.prog 76 #[.pointer (some ⟨s, 0, none⟩), opV 0 ⟨#[47, 107]⟩ q none 0 0] w fun e w' => e = .returned (.int .i64 (if q = z then 0 else 12)) ∧ Below w.heap.size w w' := by
  obtain ⟨q0, q1, q2, ⟨b, c, hbc, hmap⟩, -⟩ := h
  obtain ⟨W2, hW2⟩ : ∃ W9, ((w.alloc (.cells #[.int .i64 0, .int .i64 1, .string ⟨#[47, 107]⟩, .string ⟨#[]⟩, .string ⟨#[]⟩, .int .i64 q, .slice none 0 0] 63)).alloc (.cells #[.int .i64 1, .string ⟨#[47, 107]⟩, .string ⟨#[]⟩] 160)) = W9 := ⟨_, rfl⟩
  have B2 : Hid (Below w.heap.size w W2) := by rw [← hW2]; exact ((Below.refl _ w).alloc (Nat.le_refl _) _).alloc (by simp) _
  have LK : ∀ n, (Instr.lookup 124 (.map (some ma)) (.agg #[.int .i64 1, .string ⟨#[47, 107]⟩, .string ⟨#[]⟩]) false).run Try.prog (W2.drewN n) = .ok (.int .i64 z) (W2.drewN n) := fun n =>
    look_one (w := W2.drewN n) (k := ()) ktP Try.underlying124 zI trivial ((B2.out.block ma ((Array.getElem?_eq_some_iff.1 hmap).1)).trans hmap) false
  have CS : ∀ n, (W2.drewN n).cell? ⟨s, 0, none⟩ = some (.map (some ma)) := fun n => (B2.out.cell (p := ⟨s, 0, none⟩) (World.block_lt_of_cell? _ _ q0)).trans q0
  subst hW2
  have n1 : s ≠ w.heap.size := by have := World.block_lt_of_cell? _ _ q0; simp at this; omega
  have n2 : s ≠ w.heap.size + 1 := by have := World.block_lt_of_cell? _ _ q0; simp at this; omega
  have e0 : decide (q < 0) = false := decide_eq_false (by omega)
  have e1 : (q == 0) = false := beq_eq_false_iff_ne.2 (by omega)
  have e2 : decide (0 < q) = true := decide_eq_true hq
  obtain ⟨r, hr⟩ : ∃ r : Bool, (z != q) = r := ⟨_, rfl⟩
  have hres : (if q = z then (0 : Int) else 12) = if r = true then 12 else 0 := by
    rw [← hr]
    by_cases e : q = z
    · rw [if_pos e, if_neg (by simp [e])]
    · rw [if_neg e, if_pos (by simpa using fun h => e h.symm)]
  rw [hres]
  unfold opV
  clear hmap hres
  go_enter Try.func76, Try.ntmps76
  go_wp2_with fail
  go_quiet (fail)
  cases r with
  | true =>
    go_wp2_with fail
    go_ret
    exact ⟨rfl, below_drewN B2.out _⟩
  | false =>
    go_wp2_with fail
    go_ret
    exact ⟨rfl, below_drewN B2.out _⟩
#print axioms lookup_pos
set_option maxHeartbeats 4000000 in
theorem lookup_zero (s ma mh : Nat) (x : Option Int) (l : Int) (w : World) (h : StF w s ma mh x l) :
    Calls Try.prog 76 #[.pointer (some ⟨s, 0, none⟩), opV 0 ⟨#[47, 107]⟩ 0 none 0 0] w fun e w' => e = .returned (.int .i64 (if x.isSome = true then 13 else 0)) ∧ Below w.heap.size w w' := by
  obtain ⟨W2, hW2⟩ : ∃ W9, ((w.alloc (.cells #[.int .i64 0, .int .i64 1, .string ⟨#[47, 107]⟩, .string ⟨#[]⟩, .string ⟨#[]⟩, .int .i64 0, .slice none 0 0] 63)).alloc (.cells #[.int .i64 1, .string ⟨#[47, 107]⟩, .string ⟨#[]⟩] 160)) = W9 := ⟨_, rfl⟩
  have B2 : Hid (Below w.heap.size w W2) := by rw [← hW2]; exact ((Below.refl _ w).alloc (Nat.le_refl _) _).alloc (by simp) _
  have hb2 : w.heap.size < W2.heap.size := by rw [← hW2]; simp; omega
  have hx : W2.cell? ⟨w.heap.size, 2, none⟩ = some (.string ⟨#[47, 107]⟩) := by
    rw [← hW2, World.cell?_alloc_lt _ _ _ (by simp)]; exact World.cell?_alloc_at _ _ _ 2 (by simp)
  have hx5 : W2.cell? ⟨w.heap.size, 5, none⟩ = some (.int .i64 0) := by
    rw [← hW2, World.cell?_alloc_lt _ _ _ (by simp)]; exact World.cell?_alloc_at _ _ _ 5 (by simp)
  have h1 : W2.cell? ⟨s, 1, none⟩ = some (.map (some mh)) := (B2.out.cell (p := ⟨s, 1, none⟩) (World.block_lt_of_cell? _ _ h.c1)).trans h.c1
  unfold opV
  cases x with
  | some z =>
    obtain ⟨q0, q1, q2, -, ⟨b, c, hbc, hmap⟩⟩ := h
    have CL := Lib.hid (any_one s ma mh c b w.heap.size z l W2 h1 ((B2.out.block mh ((Array.getElem?_eq_some_iff.1 hmap).1)).trans hmap) hbc hx hb2)
    clear hmap hx hx5 hb2 h1
    subst hW2
    go_enter Try.func76, Try.ntmps76
    go_wp2_with fail
    refine (CL.out).mono ?_
    rintro e w3 ⟨rfl, b3⟩
    have B3 : Hid (Below w.heap.size w w3) := B2.out.trans (b3.mono B2.out.size)
    clear b3 CL B2
    go_wp2_with fail
    go_ret
    exact ⟨rfl, B3.out⟩
  | none =>
    obtain ⟨q0, q1, q2, -, ⟨c, hmap⟩⟩ := h
    have CL := Lib.hid (any_none s ma mh c l (.func (.func 94) #[] #[.pointer (some ⟨w.heap.size, 0, none⟩)]) W2 h1 ((B2.out.block mh ((Array.getElem?_eq_some_iff.1 hmap).1)).trans hmap))
    clear hmap hx h1
    have HX := Lib.hid hx5
    have HB := Lib.hid hb2
    clear hx5 hb2
    subst hW2
    go_enter Try.func76, Try.ntmps76
    go_wp2_with fail
    refine (CL.out).mono ?_
    rintro e w3 ⟨rfl, b3⟩
    have hx6 : ∀ n, (w3.drewN n).cell? ⟨w.heap.size, 5, none⟩ = some (.int .i64 0) := fun n => (b3.cell (p := ⟨w.heap.size, 5, none⟩) HB.out).trans HX.out
    have B3 : Hid (Below w.heap.size w w3) := B2.out.trans (b3.mono B2.out.size)
    clear b3 CL B2 HX HB
    go_wp2_with fail
    go_quiet (fail)
    go_wp2_with fail
    go_ret
    exact ⟨rfl, below_drewN B3.out _⟩
#print axioms lookup_zero
end Go.Proofs.Ytefcinifaaablaa.Ord
