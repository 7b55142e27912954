/-
  StripeHashes, the walk.
-/
import Derived.Test.YtbmcfmcolhgibaaHash
namespace Go.Proofs.Ytbmcfmcolhgibaa.Stripe
open Go.RowKit Go.Sep
set_option maxRecDepth 100000
set_option linter.unusedVariables false
set_option linter.unusedSimpArgs false

set_option maxHeartbeats 1000000 in
theorem hashes_walk (t : Int) (s : ByteArray) (w : World) (hs : s.size ≤ maxLen) :
    Calls Try.prog 3 #[.agg #[.int .i64 t, .string s]] w fun e w' => e = .returned (.bool true) ∧ Below w.heap.size w w' := by
  unfold maxLen at hs
  by_cases hl : s.size ≤ 1000
  · have g1 : decide (1000 < (s.size : Int)) = false := by simp; omega
    have g2 : decide (1000 < s.size) = false := by simp; omega
    have hh := hashN_lt (hb t s)
    have H1 := Lib.hid (fun w => hash_calls t s w hl)
    have H2 := Lib.hid (fun w => refHash_calls t s w hl)
    obtain ⟨h, he⟩ : ∃ h, hashN (hb t s) = h := ⟨_, rfl⟩
    rw [he] at H1 H2 hh
    clear he
    have hwr : IntKind.i64.wrap (h : Int) = (h : Int) := IntWalk.i64_in _ (by omega)
    go_enter Try.func3, Try.ntmps3
    go_wp2_with fail
    have CF : Hid (∀ wq, Below (w.heap.size + 1) (w.alloc (.cells #[.int .i64 t, .string s] 23)) wq → wq.cell? ⟨w.heap.size, 0, none⟩ = some (.int .i64 t) ∧ wq.cell? ⟨w.heap.size, 1, none⟩ = some (.string s)) := by
      intro wq hq
      exact ⟨(hq.cell (p := ⟨w.heap.size, 0, none⟩) (by simp)).trans (by rw [World.cell?_alloc_new]; rfl), (hq.cell (p := ⟨w.heap.size, 1, none⟩) (by simp)).trans (by rw [World.cell?_alloc_new]; rfl)⟩
    refine wp_region_quiet (C := fun w' => Below (w.heap.size + 1) (w.alloc (.cells #[.int .i64 t, .string s] 23)) w') (by kernel_rfl) (by kernel_rfl) (Below.refl _ _).drew ?_
    repeat (refine wpQuiet_step (fun K hK => ?_); go_simp; first | (refine hK _ ?_; clear hK K) | (refine ⟨_, fun _ _ => rfl, hK _ ?_⟩; clear hK K) | (apply Exists.intro; refine ⟨fun wq hq => ?_, hK _ ?_⟩; (first | (obtain ⟨f1, f2⟩ := CF.out wq hq; first | (go_simp; done) | (go_simp; rfl)) | (go_at_call 14; refine (H1.out wq).mono ?_; rintro e w'' ⟨rfl, hb'⟩; exact ⟨rfl, hq.trans (hb'.mono (by have := hq.size; simp at this; omega))⟩) | (go_at_call 15; refine (H2.out wq).mono ?_; rintro e w'' ⟨rfl, hb'⟩; exact ⟨rfl, hq.trans (hb'.mono (by have := hq.size; simp at this; omega))⟩)); clear hK K))
    refine wpQuiet_nil ?_
    intro w6 hq6
    have HQ := Lib.hid hq6
    clear hq6
    go_wp2_with fail
    go_ret
    exact ⟨rfl, ((Below.refl _ _).alloc (Nat.le_refl _) _).trans (HQ.out.mono (by simp))⟩
  · have g1 : decide (1000 < (s.size : Int)) = true := by simp; omega
    have g2 : decide (1000 < s.size) = true := by simp; omega
    go_enter Try.func3, Try.ntmps3
    go_wp2_with fail
    go_ret
    exact ⟨rfl, (Below.refl _ _).alloc (Nat.le_refl _) _⟩
end Go.Proofs.Ytbmcfmcolhgibaa.Stripe
