/-
  Words beside the separation logic: iterated stars, rows of records, small laws on the walk.
-/
import Derived.Test.YtefcinifaaablaaSep
namespace Go.Sep
open Go.RowKit

/-! ### Iterated star over a list -/
def big {α : Type _} (f : α → Asr) : List α → Asr
  | [] => emp
  | x :: l => f x * big f l

theorem big_nil {α : Type _} (f : α → Asr) : big f [] = emp := rfl
theorem big_cons {α : Type _} (f : α → Asr) (x : α) (l : List α) : big f (x :: l) = f x * big f l := rfl
theorem big_append {α : Type _} (f : α → Asr) (l k : List α) : big f (l ++ k) = big f l * big f k := by
  induction l with
  | nil => simp [big, emp_star]
  | cons x l ih => simp only [List.cons_append, big, ih]; ac_rfl
theorem big_at {α : Type _} (f : α → Asr) (l : List α) (i : Nat) (h : i < l.length) : big f l = f l[i] * big f (l.eraseIdx i) := by
  induction l generalizing i with
  | nil => simp at h
  | cons x l ih =>
    cases i with
    | zero => simp [big]
    | succ i =>
      simp only [List.length_cons, Nat.add_lt_add_iff_right] at h
      simp only [big, ih i h, List.getElem_cons_succ, List.eraseIdx_cons_succ]
      ac_rfl
theorem big_set {α : Type _} (f : α → Asr) (l : List α) (i : Nat) (x : α) (h : i < l.length) : big f (l.set i x) = f x * big f (l.eraseIdx i) := by
  rw [big_at f (l.set i x) i (by simpa using h)]
  simp [List.eraseIdx_set_eq]
theorem big_congr {α : Type _} {f g : α → Asr} {l : List α} (h : ∀ x ∈ l, f x = g x) : big f l = big g l := by
  induction l with
  | nil => rfl
  | cons x l ih => simp only [big]; rw [h x (by simp), ih fun y hy => h y (by simp [hy])]
theorem big_emp {α : Type _} {f : α → Asr} {l : List α} (h : ∀ x ∈ l, f x = emp) : big f l = emp := by
  induction l with
  | nil => rfl
  | cons x l ih => simp only [big]; rw [h x (by simp), ih fun y hy => h y (by simp [hy]), emp_star]

/-! ### A row of records: each of 'sz' cells -/
def flat {α : Type _} (enc : α → List Value) (l : List α) : Array Value := (l.flatMap enc).toArray

section
variable {α : Type _} {enc : α → List Value} {sz : Nat} {l : List α}
theorem flat_size (he : ∀ x, (enc x).length = sz) : (flat enc l).size = l.length * sz := by
  simp only [flat, List.size_toArray]
  induction l with
  | nil => simp
  | cons x l ih => simp only [List.flatMap_cons, List.length_append, he, ih, List.length_cons, Nat.add_mul]; omega
theorem flat_get (he : ∀ x, (enc x).length = sz) (i j : Nat) (hi : i < l.length) (hj : j < sz) : (flat enc l)[i * sz + j]? = (enc l[i])[j]? := by
  simp only [flat, List.getElem?_toArray]
  induction l generalizing i with
  | nil => simp at hi
  | cons x l ih =>
    cases i with
    | zero => simp [List.getElem?_append, he, hj]
    | succ i =>
      simp only [List.length_cons, Nat.add_lt_add_iff_right] at hi
      rw [List.flatMap_cons, List.getElem?_append_right (by rw [he, Nat.add_mul]; omega), he, Nat.add_mul, Nat.one_mul,
        show i * sz + sz + j - sz = i * sz + j from by omega, ih i hi]
      rfl
theorem flat_set (he : ∀ x, (enc x).length = sz) (i j : Nat) (hi : i < l.length) (hj : j < sz) (v : Value) (x : α) (hx : enc x = (enc l[i]).set j v) :
    (flat enc l).setIfInBounds (i * sz + j) v = flat enc (l.set i x) := by
  apply Array.toList_inj.1
  simp only [flat, Array.toList_setIfInBounds]
  induction l generalizing i with
  | nil => simp at hi
  | cons y l ih =>
    cases i with
    | zero => simp only [Nat.zero_mul, Nat.zero_add, List.flatMap_cons, List.set_cons_zero]; rw [List.set_append_left _ _ (by rw [he]; exact hj)]; simp at hx; rw [hx]
    | succ i =>
      simp only [List.length_cons, Nat.add_lt_add_iff_right] at hi
      simp only [List.flatMap_cons, List.set_cons_succ]
      rw [List.set_append_right _ _ (by rw [he, Nat.add_mul]; omega), he, Nat.add_mul, Nat.one_mul, show i * sz + sz + j - sz = i * sz + j from by omega, ih i hi (by simpa using hx)]
theorem flat_append (l k : List α) : flat enc (l ++ k) = flat enc l ++ flat enc k := by simp [flat]
end

/-! ### Masks -/
theorem and_low (i : Nat) (hi : i ≤ 62) (x : Int) : bits .and .i64 x (2 ^ i - 1 : Nat) = x % 2 ^ i := by
  have hp : 0 < 2 ^ i := Nat.two_pow_pos i
  have h62 : 2 ^ i ≤ 2 ^ 62 := Nat.pow_le_pow_right (by decide) hi
  simp only [bits, BitVec.ofInt_natCast, BitVec.toNat_and, BitVec.toNat_ofNat, BitVec.toNat_ofInt]
  simp only [show IntKind.i64.bits = 64 from rfl]
  rw [Nat.mod_eq_of_lt (show 2 ^ i - 1 < 2 ^ 64 by omega), Nat.and_two_pow_sub_one_eq_mod, IntKind.wrap_i64]
  have e1 : (((x % ((2 ^ 64 : Nat) : Int)).toNat % 2 ^ i : Nat) : Int) = x % 2 ^ i := by
    rw [Int.natCast_emod, Int.toNat_of_nonneg (Int.emod_nonneg _ (by decide))]
    have : ((2 ^ i : Nat) : Int) ∣ ((2 ^ 64 : Nat) : Int) := Int.natCast_dvd_natCast.2 (Nat.pow_dvd_pow 2 (by omega))
    rw [Int.emod_emod_of_dvd _ this]
    simp
  rw [e1]
  have hq : (2 : Int) ^ i = ((2 ^ i : Nat) : Int) := by simp
  have h0 := Int.emod_nonneg x (show (2 : Int) ^ i ≠ 0 by rw [hq]; omega)
  have h1 := Int.emod_lt_of_pos x (show (0 : Int) < 2 ^ i by rw [hq]; omega)
  rw [hq] at h1
  rw [hq] at h0 ⊢
  omega
theorem and_lo (i : Nat) (hi : i ≤ 62) (x : Int) : ∃ k : Nat, bits .and .i64 x (2 ^ i - 1 : Nat) = k ∧ k < 2 ^ i ∧ (k : Int) = x % 2 ^ i := by
  have hq : (2 : Int) ^ i = ((2 ^ i : Nat) : Int) := by simp
  have hp : 0 < 2 ^ i := Nat.two_pow_pos i
  have h0 := Int.emod_nonneg x (show (2 : Int) ^ i ≠ 0 by rw [hq]; omega)
  have h1 := Int.emod_lt_of_pos x (show (0 : Int) < 2 ^ i by rw [hq]; omega)
  obtain ⟨k, hk⟩ := Int.eq_ofNat_of_zero_le h0
  exact ⟨k, by rw [and_low i hi, hk], by rw [hq, ← hq, hk] at h1; exact_mod_cast h1, hk.symm⟩
theorem and31 (x : Int) : ∃ k : Nat, bits .and .i64 x 31 = k ∧ k < 32 ∧ (k : Int) = x % 32 := and_lo 5 (by decide) x
theorem and4095 (x : Int) : ∃ k : Nat, bits .and .i64 x 4095 = k ∧ k < 4096 ∧ (k : Int) = x % 4096 := and_lo 12 (by decide) x
theorem and3 (x : Int) : ∃ k : Nat, bits .and .i64 x 3 = k ∧ k < 4 ∧ (k : Int) = x % 4 := and_lo 2 (by decide) x
theorem and7 (x : Int) : ∃ k : Nat, bits .and .i64 x 7 = k ∧ k < 8 ∧ (k : Int) = x % 8 := and_lo 3 (by decide) x
theorem and511 (x : Int) : ∃ k : Nat, bits .and .i64 x 511 = k ∧ k < 512 ∧ (k : Int) = x % 512 := and_lo 9 (by decide) x

/-- What a walk is told of a slice of integers that came in: it is nil; or it leads to a row of 'cap' cells, the numbers 'zs' (the first 'len' are its elements). -/
def IsRow (k : IntKind) (w : World) (a : Option Addr) (len cap : Nat) (zs : List Int) : Prop :=
  (a = none ∧ len = 0 ∧ cap = 0 ∧ zs = []) ∨
  ∃ x, a = some x ∧ len ≤ cap ∧ cap ≤ maxLen ∧ zs.length = cap ∧ (∀ i, i < zs.length → w.cell? (x.add i) = some (.int k (zs.getD i 0))) ∧ ∀ n ∈ zs, (Lit.int k n).wf = true

#print axioms flat_set
end Go.Sep
