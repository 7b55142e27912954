/-
  Layer 16: Len, Charge; what Append promises.
-/
import Derived.Test.YtefcinifaaablaaChainDef
namespace Go.Proofs.Ytefcinifaaablaa.Chain
open Go.RowKit Go.Sep
open Go.Proofs.Ytefcinifaaablaa.Slab (szOf szN szN_val clsFor Ar hdl hdlV ABlk allocA dropA writeA Took Src u8s)
set_option maxRecDepth 100000
set_option linter.unusedVariables false
set_option linter.unusedSimpArgs false

/-! ### what is read of a chain -/
theorem len_calls (c a : Nat) (K : Ch) (A : List (List ABlk)) (F : Asr) (w : World) (hw : Holds w (chA c a K * (Ar a A * F))) :
    Calls Try.prog 13 #[.pointer (some ⟨c, 0, none⟩)] w fun e w' => e = .returned (.int .i64 (if K.freed then 0 else K.long)) ∧ Below w.heap.size w w' := by
  have ST := Lib.hid (state_calls c a K A F w hw)
  have FC : Hid (∀ w', Below w.heap.size w w' → w'.cell? ⟨c, 2, none⟩ = some (.int .i64 K.long) ∧ c < w'.heap.size) := by
    intro w' hb
    obtain ⟨v, hv⟩ := chA_seen (hw.grow hb)
    exact ⟨hv.c2, hv.lt⟩
  unfold stateE at ST
  obtain ⟨b, hb⟩ : ∃ b, K.freed = b := ⟨_, rfl⟩
  rw [hb] at ST ⊢
  clear hb hw
  cases b with
  | true =>
    go_enter Try.func13, Try.ntmps13
    go_wp2_with fail
    refine (ST.out).mono ?_
    rintro e w1 ⟨rfl, hb1⟩
    go_wp2_with fail
    go_ret
    exact ⟨rfl, hb1⟩
  | false =>
    go_enter Try.func13, Try.ntmps13
    go_wp2_with fail
    refine (ST.out).mono ?_
    rintro e w1 ⟨rfl, hb1⟩
    obtain ⟨x2, xl⟩ := FC.out w1 hb1
    have B1 := Lib.hid hb1
    clear hb1 ST FC
    go_wp2_with fail
    go_ret
    exact ⟨rfl, B1.out⟩
theorem charge_calls (c a : Nat) (K : Ch) (A : List (List ABlk)) (F : Asr) (w : World) (hw : Holds w (chA c a K * (Ar a A * F))) :
    Calls Try.prog 14 #[.pointer (some ⟨c, 0, none⟩)] w fun e w' => e = .returned (.int .i64 (if K.freed then 0 else K.charge)) ∧ Below w.heap.size w w' := by
  have ST := Lib.hid (state_calls c a K A F w hw)
  have FC : Hid (∀ w', Below w.heap.size w w' → w'.cell? ⟨c, 3, none⟩ = some (.int .i64 K.charge) ∧ c < w'.heap.size) := by
    intro w' hb
    obtain ⟨v, hv⟩ := chA_seen (hw.grow hb)
    exact ⟨hv.c3, hv.lt⟩
  unfold stateE at ST
  obtain ⟨b, hb⟩ : ∃ b, K.freed = b := ⟨_, rfl⟩
  rw [hb] at ST ⊢
  clear hb hw
  cases b with
  | true =>
    go_enter Try.func14, Try.ntmps14
    go_wp2_with fail
    refine (ST.out).mono ?_
    rintro e w1 ⟨rfl, hb1⟩
    go_wp2_with fail
    go_ret
    exact ⟨rfl, hb1⟩
  | false =>
    go_enter Try.func14, Try.ntmps14
    go_wp2_with fail
    refine (ST.out).mono ?_
    rintro e w1 ⟨rfl, hb1⟩
    obtain ⟨x2, xl⟩ := FC.out w1 hb1
    have B1 := Lib.hid hb1
    clear hb1 ST FC
    go_wp2_with fail
    go_ret
    exact ⟨rfl, B1.out⟩
#print axioms charge_calls

def AppC (r : Appd) (c a : Nat) (F : Asr) (w : World) (e : Ending) (w' : World) : Prop := e = .returned (.int .i64 r.e) ∧ Holds w' (chA c a r.K * (Ar a r.A * F)) ∧ Sm w w'
end Go.Proofs.Ytefcinifaaablaa.Chain
