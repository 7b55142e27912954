/-
  Layer 16: Read where nothing is; bytes that were just made.
-/
import Derived.Test.YtefcinifaaablaaChainInv
import Derived.Test.YtefcinifaaablaaReg
import Derived.Laws.MakeOwn
namespace Go.Proofs.Ytefcinifaaablaa.Chain
open Go.RowKit Go.Sep
open Go.Proofs.Ytefcinifaaablaa.Slab (szOf Ar hdl ABlk Src u8s)
set_option maxRecDepth 100000
set_option linter.unusedVariables false
set_option linter.unusedSimpArgs false

theorem made_u8 (n : Nat) : madeCells #[Value.int .u8 0] (n * 1) = (List.replicate n (Value.int .u8 0)).toArray := by
  apply Array.ext
  · simp [madeCells]
  · intro i h1 h2
    simp [madeCells, Nat.mod_one]
theorem run_make_u8 (n : Nat) (hn : n ≤ 1048576) (w : World) : (Instr.makeSlice 30 (.int .i64 n) (.int .i64 n)).run Try.prog w = .ok (.slice (some ⟨w.heap.size, 0, none⟩) n n) (w.alloc (.cells (List.replicate n (Value.int .u8 0)).toArray 5)) := by
  obtain ⟨i, hi, hz, hs, hb⟩ := info_parts (P := Try.prog) (e := 5) (z := .int .u8 0) (size := 1) (bytes := 1) (by kernel_rfl)
  have h := run_make (P := Try.prog) w 30 5 i _ Try.underlying30 hi hz .i64 .i64 n n (by omega) (by omega) (by rw [hb]; omega) (by omega)
  rw [h]
  simp only [Int.toNat_natCast, hs, Value.cells, made_u8]
theorem bytes_zero (g n : Nat) (hn : n ≤ 1048576) (G : Asr) : Bytes (pts g (.cells (List.replicate n (Value.int .u8 0)).toArray 5 (0, 0)) * G) (some ⟨g, 0, none⟩) n n (List.replicate n 0) := by
  refine ⟨fun w G2 h => ⟨by simp, fun hp => ⟨g, 0, rfl, ?_, fun j hj => ?_⟩⟩, by simp, Nat.le_refl _, by omega, fun x hx => by have := (List.mem_replicate.1 hx).2; omega⟩
  · exact (h.eqv (star_left_comm _ _ _)).lt
  · rw [(h.eqv (star_left_comm _ _ _)).cell]
    simp [hj]
theorem bytes_nil (F : Asr) : Bytes F none 0 0 [] := ⟨fun w G h => ⟨rfl, fun h => by omega⟩, rfl, Nat.le_refl _, by omega, fun x hx => by cases hx⟩

theorem read_out (c a : Nat) (K : Ch) (A : List (List ABlk)) (F : Asr) (w : World) (h0 : 0 ≤ K.long) (h9 : K.long ≤ 1048576) (hf : K.freed = false) (hw : Holds w (chA c a K * (Ar a A * F))) :
    Calls Try.prog 17 #[.pointer (some ⟨c, 0, none⟩), .int .i64 K.long, .int .i64 1] w fun e w' => e = .returned (.tuple #[.slice none 0 0, .int .i64 2]) ∧ Below w.heap.size w w' := by
  have ST := Lib.hid (state_calls c a K A F w hw)
  have FC : Hid (∀ w', Below w.heap.size w w' → w'.cell? ⟨c, 2, none⟩ = some (.int .i64 K.long) ∧ c < w'.heap.size) := by
    intro w' hb
    obtain ⟨v, hv⟩ := chA_seen (hw.grow hb)
    exact ⟨hv.c2, hv.lt⟩
  unfold stateE at ST
  rw [hf] at ST
  obtain ⟨lg, hl⟩ : ∃ b, K.long = b := ⟨_, rfl⟩
  rw [hl] at FC h0 h9 ⊢
  have d1 : decide (lg < 0) = false := by simpa using h0
  have d2 : decide (lg < lg) = false := by simp
  have lw : IntKind.i64.wrap (lg - lg) = 0 := by rw [Int.sub_self]; rfl
  clear hl hw hf
  go_enter Try.func17, Try.ntmps17
  go_wp2_with fail
  refine (ST.out).mono ?_
  rintro e w1 ⟨rfl, hb1⟩
  obtain ⟨x2, xl⟩ := FC.out w1 hb1
  have B1 := Lib.hid hb1
  clear hb1 ST FC
  go_wp2_with fail
  go_ret2
  exact ⟨rfl, B1.out⟩
#print axioms read_out
end Go.Proofs.Ytefcinifaaablaa.Chain
