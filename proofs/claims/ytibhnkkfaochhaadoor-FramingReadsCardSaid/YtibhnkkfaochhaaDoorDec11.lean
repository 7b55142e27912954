/-
  Layer 6: Feed (printed by gen/dec11.py).
-/
import Derived.Test.YtibhnkkfaochhaaDoorDec10
namespace Go.Proofs.YtibhnkkfaochhaaDoor.Dec
open Go.RowKit Go.Sep
open Go.Proofs.YtibhnkkfaochhaaDoor.Tok
set_option maxRecDepth 100000
set_option linter.unusedVariables false
set_option linter.unusedSimpArgs false

structure OkD (S : DS) : Prop where
  st : S.st ≤ 5
  sum : S.sum ≤ 1048576
  left : S.left ≤ 4294967296
  own : S.own.length ≤ 1025
  d1 : S.st = 1 → 1 ≤ S.left
  d4 : S.st = 4 → 1 ≤ S.left
def OkS (S : DS) : Prop := stopped S = true ∨ OkD S
theorem sizeL_lt {s : List UInt8} {n : Nat} (hz : sizeL s = some n) : n < 4294967296 := by
  rw [sizeL_eq] at hz
  split at hz
  · cases hz
  · rename_i hk
    split at hz
    · cases hz
    · split at hz
      · have := Option.some.inj hz
        rw [← this]
        have h1 := hexN_lt (s.take (hexK s)) 0 0 (by decide) (hexK_hex s)
        rw [Nat.zero_add] at h1
        refine Nat.lt_of_lt_of_le h1 (Nat.le_trans (Nat.pow_le_pow_right (by omega) (?_ : _ ≤ 8)) (by decide))
        rw [List.length_take]
        omega
      · cases hz
theorem dline_none {S S1 : DS} {c : UInt8} (h : dline S c = (S1, none)) : (S1 = { S with own := S.own ++ [c], e := 3 }) ∨ (S1 = { S with own := S.own ++ [c] } ∧ (S.own ++ [c]).length ≤ 1025) := by
  unfold dline at h
  split at h
  · simp at h; exact .inl h.symm
  · rename_i hb
    split at h
    · simp only [Prod.mk.injEq, and_true] at h; exact .inr ⟨h.symm, by omega⟩
    · simp at h
theorem stop_e {S : DS} (h : S.e ≠ 0) : stopped S = true := by unfold stopped; simp [h]
theorem stop_d {S : DS} (h : S.done = true) : stopped S = true := by unfold stopped; simp [h]
theorem line_ok {S : DS} {c : UInt8} {f : DS → List UInt8 → DS} (h : OkD S) (hs : S.st ≠ 1 ∧ S.st ≠ 4) (hf : ∀ s, OkS (f { S with own := [] } s)) : OkS (onLine S c f).1 := by
  obtain ⟨⟨S1, r⟩, hdl⟩ : ∃ q, dline S c = q := ⟨_, rfl⟩
  cases r with
  | none =>
    rw [onLine_none hdl]
    rcases dline_none hdl with rfl | ⟨rfl, hl⟩
    · exact .inl (stop_e (by simp))
    · exact .inr ⟨h.st, h.sum, h.left, hl, h.d1, h.d4⟩
  | some s =>
    rw [onLine_some hdl, (dline_some hdl).1]
    exact hf s
theorem step_ok {S : DS} (c : UInt8) (h : OkD S) : OkS (dstep S c).1 := by
  have hst := h.st
  by_cases h0 : S.st = 0
  · rw [step0 c h0]
    refine line_ok h (by omega) fun s => ?_
    unfold dsize
    split
    · exact .inl (stop_e (by simp))
    · rename_i n hz
      have hn := sizeL_lt hz
      split
      · exact .inl (stop_e (by simp))
      · split
        · exact .inr ⟨by simp, h.sum, h.left, by simp, by simp, by simp⟩
        · rename_i hb hn0
          simp only at hb
          have := h.sum
          exact .inr ⟨by simp, by simp only; omega, by simp only; omega, by simp, fun _ => by simp only; omega, by simp⟩
  by_cases h1 : S.st = 1
  · rw [step1 c h1]
    have hl := h.d1 h1
    have h2 := h.left
    refine .inr ⟨by simp only; split <;> omega, h.sum, by simp only; omega, h.own, fun e => ?_, fun e => ?_⟩
    · simp only at e ⊢
      split at e <;> omega
    · simp only at e
      split at e <;> omega
  by_cases h2 : S.st = 2
  · rw [step2 c h2]
    refine line_ok h (by omega) fun s => ?_
    unfold dbehind
    split
    · exact .inl (stop_e (by simp))
    · exact .inr ⟨by simp, h.sum, h.left, by simp, by simp, by simp⟩
  by_cases h3 : S.st = 3
  · rw [step3 c h3]
    refine line_ok h (by omega) fun s => ?_
    unfold dfields
    split
    · exact .inl (stop_d rfl)
    · split
      · exact .inr ⟨by simp only; omega, h.sum, h.left, by simp, fun e => by simp only at e; omega, fun e => by simp only at e; omega⟩
      · exact .inl (stop_e (by simp))
  by_cases h4 : S.st = 4
  · rw [step4 c h4]
    have hl := h.d4 h4
    have h5 := h.left
    by_cases hz : S.left - 1 = 0
    · exact .inl (stop_d (by simp [hz]))
    · exact .inr ⟨h.st, h.sum, by simp only; omega, h.own, fun e => by simp only at e; omega, fun e => by simp only; omega⟩
  · rw [step5 c (by omega)]
    have := h.sum
    split
    · exact .inl (stop_e (by simp))
    · exact .inr ⟨h.st, by simp only; omega, h.left, h.own, h.d1, h.d4⟩
#print axioms step_ok
theorem step_out (S : DS) (c : UInt8) : (dstep S c).2.length ≤ 1 := by
  unfold dstep onLine
  repeat' split
  all_goals simp
theorem feed_ok : ∀ (b : List UInt8) (S : DS), OkS S → OkS (feedL S b).1
  | [], S, h => h
  | c :: r, S, h => by
    rw [feedL]
    split
    · exact h
    · rename_i hn
      exact feed_ok r _ (step_ok c (h.resolve_left hn))
theorem feed_out : ∀ (b : List UInt8) (S : DS), (feedL S b).2.1.length ≤ b.length
  | [], S => Nat.le_refl _
  | c :: r, S => by
    rw [feedL]
    split
    · exact Nat.zero_le _
    · have h1 := feed_out r (dstep S c).1
      have h2 := step_out S c
      simp only [List.length_append, List.length_cons]
      omega
/-- bytes that what is held beside keeps -/
structure SrcB (F : Asr) (so : Option Addr) (n : Nat) (b : List UInt8) : Prop where
  len : b.length = n
  cell : 0 < n → ∃ gb ob, so = some ⟨gb, ob, none⟩ ∧ ∀ (A : Asr) (wq : World), Holds wq (A * F) → ∀ j (hj : j < b.length), wq.cell? ⟨gb, ob + j, none⟩ = some (.int .u8 (b[j].toNat : Int))
def FeedC (d : Nat) (S : DS) (b : List UInt8) (F : Asr) (w : World) (e : Ending) (w' : World) : Prop :=
  ∃ go, e = .returned (.tuple #[.slice (some ⟨go, 0, none⟩) (feedL S b).2.1.length (feedL S b).2.1.length, .int .i64 (feedL S b).2.2, .bool (feedL S b).1.done, .int .i64 (feedL S b).1.e]) ∧
    Holds w' (pts go (.cells (bc (feedL S b).2.1).toArray 5 (0, 0)) * (decA d (feedL S b).1 (feedL S b).2.1 * F)) ∧ Sm w w'
theorem none_calls (d : Nat) (S : DS) (vo vu : Value) (w : World) (h : DecF w d S vo vu) : Calls Tryd.prog 15 #[.pointer (some ⟨d, 0, none⟩)] w fun e w' => e = .returned (.bool false) ∧ Below w.heap.size w w' := by
  have c0 := h.c0
  clear h
  go_enter Tryd.func15, Tryd.ntmps15
  go_wp2_with fail
  go_ret
  exact ⟨rfl, Below.refl _ _⟩
#print axioms none_calls
end Go.Proofs.YtibhnkkfaochhaaDoor.Dec
