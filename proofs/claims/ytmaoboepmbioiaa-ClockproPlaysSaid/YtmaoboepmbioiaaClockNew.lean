/-
  Layer 19: New.
-/
import Derived.Test.YtmaoboepmbioiaaClockAdd2
namespace Go.Proofs.Ytmaoboepmbioiaa.Clock
open Go.RowKit Go.Sep
set_option maxRecDepth 100000
set_option linter.unusedVariables false
set_option linter.unusedSimpArgs false

theorem new_no (most : Int) (w : World) (h : most < 1 ∨ 4096 < most) :
    Calls Try.prog 31 #[.int .i64 most] w fun e w' => e = .returned (.tuple #[.pointer none, .int .i64 2]) ∧ w = w' := by
  by_cases h1 : most < 1
  · have d0 : decide (most < 1) = true := by simpa using h1
    clear h h1
    go_enter Try.func31, Try.ntmps31
    go_wp2
    go_ret2
    exact ⟨rfl, rfl⟩
  · have d0 : decide (most < 1) = false := by simpa using h1
    have d1 : decide (4096 < most) = true := by simp; omega
    clear h h1
    go_enter Try.func31, Try.ntmps31
    go_wp2
    go_ret2
    exact ⟨rfl, rfl⟩
def NewC (most : Int) (F : Asr) (w : World) (e : Ending) (w' : World) : Prop :=
  ∃ a, e = .returned (.tuple #[.pointer (some ⟨a, 0, none⟩), .int .i64 0]) ∧ Holds w' (ck a (newS most) * F) ∧ Sm w w'
def ringC : Array Value := #[.pointer none, .int .i64 0]
set_option maxHeartbeats 4000000 in
theorem new_calls (most : Int) (F : Asr) (w : World) (h1 : 1 ≤ most) (h2 : most ≤ 4096) (hw : Holds w F) :
    Calls Try.prog 31 #[.int .i64 most] w (NewC most F w) := by
  have d0 : decide (most < 1) = false := by simp; omega
  have d1 : decide (4096 < most) = false := by simp; omega
  have HW := Lib.hid hw
  have H1 := Lib.hid h1
  have H2 := Lib.hid h2
  clear hw h1 h2
  have hmm := @run_makeMap Try.prog
  obtain ⟨R, hR⟩ : ∃ R, R = w.heap.size := ⟨_, rfl⟩
  have hA := mapA_new (ke := iK) (ve := pa) (ok := okK) (HW.out.alloc (.map #[] 0))
  have hA1 := Lib.hid ((hA.alloc (.cells #[.pointer none, .int .i64 0] 155)).eqv (star_left_comm _ _ _))
  clear hA
  go_enter Try.func31, Try.ntmps31
  go_wp2_with (refine wpList_insert_sep rfl _ _ _ rfl intK Try.underlying156 hA1.out 1 (by unfold okK; decide) (w.heap.size + 1) rfl rfl (by simp [pa]; rfl) ?_)
  intro w1 h1 s1
  have S1 : Hid (Sm w w1) := (((Sm.refl w).alloc _).alloc _).trans s1
  have hA2 := Lib.hid ((h1.alloc (.cells #[.pointer none, .int .i64 0] 155)).eqv (star_left_comm _ _ _))
  clear h1 s1 hA1
  go_wp2_with (refine wpList_insert_sep rfl _ _ _ rfl intK Try.underlying156 hA2.out 2 (by unfold okK; decide) w1.heap.size rfl rfl rfl ?_)
  intro w2 h1 s1
  have S2 : Hid (Sm w w2) := ((S1.out.alloc _)).trans s1
  have hA3 := Lib.hid ((h1.alloc (.cells #[.pointer none, .int .i64 0] 155)).eqv (star_left_comm _ _ _))
  clear h1 s1 hA2 S1
  go_wp2_with (refine wpList_insert_sep rfl _ _ _ rfl intK Try.underlying156 hA3.out 3 (by unfold okK; decide) w2.heap.size rfl rfl rfl ?_)
  intro w3 h1 s1
  have S3 : Hid (Sm w w3) := ((S2.out.alloc _)).trans s1
  have hA4 := mapA_new (ke := iK) (ve := pa) (ok := okK) (h1.alloc (.map #[] 0))
  have hA5 := Lib.hid (hA4.alloc (.cells #[.int .i64 most, .int .i64 1, .map (some w.heap.size), .map (some w3.heap.size)] 159))
  clear h1 s1 hA3 S2 hA4
  go_wp2_with fail
  go_ret2
  refine ⟨w3.heap.size + 1, rfl, ?_, (S3.out.alloc _).alloc _⟩
  have h := hA5.out
  have e : putK (putK (putK ([] : List (Int × Nat)) 1 (w.heap.size + 1)) 2 w1.heap.size) 3 w2.heap.size = rmE (fun k => if k = 1 then (w.heap.size + 1) else if k = 2 then w1.heap.size else w2.heap.size) := by
    simp [putK, rmE]
  simp only [e] at h
  refine Holds.eqv (B := ck (w3.heap.size + 1) (newS most) * F) (ck_shut (D := ⟨w3.heap.size + 1, w.heap.size, w3.heap.size, fun k => if k = 1 then (w.heap.size + 1) else if k = 2 then w1.heap.size else w2.heap.size, most, 1, [], fun _ => [], fun _ => nd0 0, []⟩) ?_ (h.eqv ?_)) rfl
  · refine ⟨⟨List.nodup_nil, by simp, fun _ => List.nodup_nil, by simp, fun _ => trivial, by simp⟩, rfl, rfl, rfl, rfl, rfl, by simp, by simp⟩
  · unfold rawA hdA ringsA ringA nodesA
    simp only [big_nil, star_emp, List.head?_nil, List.length_nil, pt, Option.map_none, World.size_alloc]
    have n21 : ¬ ((2 : Int) = 1) := by decide
    have n31 : ¬ ((3 : Int) = 1) := by decide
    have n32 : ¬ ((3 : Int) = 2) := by decide
    simp only [if_true, if_neg n21, if_neg n31, if_neg n32]
    simp
    ac_rfl
#print axioms new_calls
end Go.Proofs.Ytmaoboepmbioiaa.Clock
