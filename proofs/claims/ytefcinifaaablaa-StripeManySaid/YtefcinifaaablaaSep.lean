/-
  A small separation logic over the model's heap: an assertion speaks of whole blocks; 'Holds w A': the world w has (at least) the blocks of which A speaks.
-/
import Derived.WalkKit
import Derived.WalkSpells
import Derived.WalkLawsBesides
import Derived.Lib.Hide
namespace Go.Sep
open Go.RowKit

def Asr := (Nat → Option Obj) → Prop

def emp : Asr := fun h => h = fun _ => none
def pts (b : Nat) (o : Obj) : Asr := fun h => h = fun k => if k = b then some o else none
def ex {α : Sort _} (f : α → Asr) : Asr := fun h => ∃ x, f x h
def pur (p : Prop) : Asr := fun h => p ∧ h = fun _ => none
def star (A B : Asr) : Asr := fun h => ∃ h1 h2, (∀ b, h1 b = none ∨ h2 b = none) ∧ (h = fun b => (h1 b).or (h2 b)) ∧ A h1 ∧ B h2
instance : Mul Asr := ⟨star⟩

theorem Asr.ext {A B : Asr} (h : ∀ x, A x ↔ B x) : A = B := funext fun x => propext (h x)

theorem star_comm (A B : Asr) : A * B = B * A := by
  have one : ∀ A B : Asr, ∀ x, (A * B) x → (B * A) x := by
    rintro A B x ⟨h1, h2, hd, rfl, a, b⟩
    refine ⟨h2, h1, fun b => (hd b).symm, ?_, b, a⟩
    funext k
    rcases hd k with h | h <;> simp [h]
  exact Asr.ext fun x => ⟨one A B x, one B A x⟩

theorem star_assoc (A B C : Asr) : (A * B) * C = A * (B * C) := by
  have one : ∀ A B C : Asr, ∀ x, ((A * B) * C) x → (A * (B * C)) x := by
    rintro A B C x ⟨h12, h3, hd, rfl, ⟨h1, h2, hd', rfl, a, b⟩, c⟩
    refine ⟨h1, fun k => (h2 k).or (h3 k), ?_, ?_, a, h2, h3, ?_, rfl, b, c⟩
    · intro k
      have e1 := hd k
      have e2 := hd' k
      cases h : h1 k
      · exact .inl rfl
      · simp only [h, Option.some_or, reduceCtorEq, false_or] at e1 e2
        exact .inr (by simp [e1, e2])
    · funext k; simp [Option.or_assoc]
    · intro k
      rcases hd k with h | h
      · rcases hd' k with h' | h'
        · left; simpa [h'] using h
        · left; exact h'
      · exact .inr h
  refine Asr.ext fun x => ⟨one A B C x, fun h => ?_⟩
  rw [star_comm A, star_comm B] at h
  have := one C B A x h
  rw [star_comm C, star_comm B] at this
  exact this

instance : Std.Commutative (α := Asr) (· * ·) := ⟨star_comm⟩
instance : Std.Associative (α := Asr) (· * ·) := ⟨star_assoc⟩
theorem star_left_comm (A B C : Asr) : A * (B * C) = B * (A * C) := by ac_rfl

theorem emp_star (A : Asr) : emp * A = A := by
  refine Asr.ext fun x => ⟨?_, fun h => ⟨fun _ => none, x, fun _ => .inl rfl, by simp, rfl, h⟩⟩
  rintro ⟨h1, h2, hd, rfl, rfl, a⟩
  simpa using a
theorem star_emp (A : Asr) : A * emp = A := by rw [star_comm, emp_star]

theorem ex_star {α : Sort _} (f : α → Asr) (A : Asr) : ex f * A = ex fun x => f x * A := by
  refine Asr.ext fun x => ⟨?_, ?_⟩
  · rintro ⟨h1, h2, hd, e, ⟨y, a⟩, b⟩; exact ⟨y, h1, h2, hd, e, a, b⟩
  · rintro ⟨y, h1, h2, hd, e, a, b⟩; exact ⟨h1, h2, hd, e, ⟨y, a⟩, b⟩
theorem star_ex {α : Sort _} (f : α → Asr) (A : Asr) : A * ex f = ex fun x => A * f x := by
  rw [star_comm, ex_star]; congr; funext x; rw [star_comm]

def Holds (w : World) (A : Asr) : Prop := ∃ h, A h ∧ ∀ b o, h b = some o → w.heap[b]? = some o

theorem Holds.eqv {w : World} {A B : Asr} (h : Holds w A) (e : A = B) : Holds w B := e ▸ h

theorem holds_ex {α : Sort _} {f : α → Asr} {w : World} : Holds w (ex f) ↔ ∃ x, Holds w (f x) := by
  constructor
  · rintro ⟨h, ⟨x, a⟩, k⟩; exact ⟨x, h, a, k⟩
  · rintro ⟨x, h, a, k⟩; exact ⟨h, ⟨x, a⟩, k⟩
theorem holds_pur {p : Prop} {A : Asr} {w : World} : Holds w (pur p * A) ↔ p ∧ Holds w A := by
  have e : p → pur p = emp := fun hp => Asr.ext fun x => ⟨fun h => h.2, fun h => ⟨hp, h⟩⟩
  constructor
  · rintro ⟨h, ⟨h1, h2, hd, rfl, ⟨hp, rfl⟩, a⟩, k⟩
    exact ⟨hp, h2, a, by simpa using k⟩
  · rintro ⟨hp, h⟩; rw [e hp, emp_star]; exact h
theorem holds_pur' {p : Prop} {w : World} : Holds w (pur p) ↔ p := by
  constructor
  · rintro ⟨h, ⟨hp, _⟩, _⟩; exact hp
  · intro hp; exact ⟨_, ⟨hp, rfl⟩, by simp⟩

/-- What is not needed may be dropped. -/
theorem Holds.right {w : World} {A B : Asr} (h : Holds w (A * B)) : Holds w B := by
  obtain ⟨x, ⟨h1, h2, hd, rfl, a, b⟩, k⟩ := h
  refine ⟨h2, b, fun c o hc => k c o ?_⟩
  rcases hd c with e | e
  · simp [e, hc]
  · simp [e] at hc
theorem Holds.left {w : World} {A B : Asr} (h : Holds w (A * B)) : Holds w A := by
  rw [star_comm] at h; exact h.right

theorem Holds.emp (w : World) : Holds w emp := ⟨_, rfl, by simp⟩

theorem Holds.at' {w : World} {b : Nat} {o : Obj} (h : Holds w (pts b o)) : w.heap[b]? = some o := by
  obtain ⟨x, rfl, k⟩ := h
  exact k b o (by simp)
theorem Holds.at {w : World} {b : Nat} {o : Obj} {F : Asr} (h : Holds w (pts b o * F)) : w.heap[b]? = some o := h.left.at'

theorem Holds.lt {w : World} {b : Nat} {o : Obj} {F : Asr} (h : Holds w (pts b o * F)) : b < w.heap.size := (Array.getElem?_eq_some_iff.1 h.at).1

theorem Holds.ne {w : World} {b c : Nat} {o p : Obj} {F : Asr} (h : Holds w (pts b o * (pts c p * F))) : b ≠ c := by
  obtain ⟨x, ⟨h1, h2, hd, rfl, rfl, ⟨h3, h4, hd', rfl, rfl, _⟩⟩, k⟩ := h
  intro e
  have := hd b
  simp [e] at this

theorem Holds.cell {w : World} {b : Nat} {cs : Array Value} {T : TypeId} {fz : Nat × Nat} {F : Asr} (h : Holds w (pts b (.cells cs T fz) * F)) (o : Nat) : w.cell? ⟨b, o, none⟩ = cs[o]? := by
  simp [World.cell?, h.at]
theorem Holds.frozen {w : World} {b : Nat} {cs : Array Value} {T : TypeId} {F : Asr} (h : Holds w (pts b (.cells cs T (0, 0)) * F)) (o : Nat) : w.frozen? ⟨b, o, none⟩ = false := by
  simp [World.frozen?, h.at]
theorem Holds.shape {w : World} {b : Nat} {cs : Array Value} {T : TypeId} {fz : Nat × Nat} {F : Asr} (h : Holds w (pts b (.cells cs T fz) * F)) : w.shape? b = some (T, cs.size) := by
  simp [World.shape?, h.at]

/-- One block is turned into another one. -/
theorem Holds.upd {w w' : World} {b : Nat} {o o' : Obj} {F : Asr} (h : Holds w (pts b o * F)) (hb : w'.heap[b]? = some o') (hk : ∀ k, k ≠ b → k < w.heap.size → w'.heap[k]? = w.heap[k]?) : Holds w' (pts b o' * F) := by
  obtain ⟨x, ⟨h1, h2, hd, rfl, rfl, a⟩, k⟩ := h
  refine ⟨_, ⟨_, h2, ?_, rfl, rfl, a⟩, ?_⟩
  · intro c
    have := hd c
    by_cases e : c = b <;> simp_all
  · intro c p hc
    by_cases e : c = b
    · subst e; simp at hc; rw [hb, hc]
    · simp [e] at hc
      have := k c p (by simp [e, hc])
      rw [hk c e (Array.getElem?_eq_some_iff.1 this).1, this]

theorem Holds.store {w : World} {b : Nat} {cs : Array Value} {T : TypeId} {fz : Nat × Nat} {F : Asr} (h : Holds w (pts b (.cells cs T fz) * F)) (o : Nat) (v : Value) :
    Holds (w.setCell ⟨b, o, none⟩ v) (pts b (.cells (cs.setIfInBounds o v) T fz) * F) := by
  refine h.upd ?_ fun k hk _ => ?_
  · simp [World.setCell, Array.getElem?_modify, h.at]
  · simp [World.setCell, Array.getElem?_modify, Ne.symm hk]

theorem Holds.drew {w : World} {A : Asr} (h : Holds w A) : Holds w.drew A := h
theorem Holds.drewN {w : World} {A : Asr} (h : Holds w A) (n : Nat) : Holds (w.drewN n) A := h

theorem Holds.alloc {w : World} {A : Asr} (h : Holds w A) (o : Obj) : Holds (w.alloc o) (pts w.heap.size o * A) := by
  obtain ⟨x, a, k⟩ := h
  refine ⟨_, ⟨_, x, ?_, rfl, rfl, a⟩, ?_⟩
  · intro b
    by_cases e : b = w.heap.size
    · right
      cases hx : x b with
      | none => rfl
      | some p => have := k b p hx; rw [e] at this; simp at this
    · simp [e]
  · intro b p hb
    by_cases e : b = w.heap.size
    · subst e; simp at hb; simp [World.alloc, hb, -World.alloc_eq]
    · simp [e] at hb
      have := k b p hb
      have hlt := (Array.getElem?_eq_some_iff.1 this).1
      simp only [World.alloc, Array.getElem?_push]; rw [if_neg (by omega)]; exact this

/-- The streams are as they were, and no block has gone. -/
structure Sm (w w' : World) : Prop where
  os : w'.os = w.os
  tape : w'.tape = w.tape
  output : w'.output = w.output
  size : w.heap.size ≤ w'.heap.size

theorem Sm.refl (w : World) : Sm w w := ⟨rfl, rfl, rfl, Nat.le_refl _⟩
theorem Sm.trans {a b c : World} (h : Sm a b) (k : Sm b c) : Sm a c := ⟨k.os.trans h.os, k.tape.trans h.tape, k.output.trans h.output, Nat.le_trans h.size k.size⟩
theorem Sm.alloc {a w : World} (h : Sm a w) (o : Obj) : Sm a (w.alloc o) := h.trans ⟨rfl, rfl, rfl, by simp⟩
theorem Sm.setCell {a w : World} (h : Sm a w) (p : Addr) (v : Value) : Sm a (w.setCell p v) := h.trans ⟨rfl, rfl, rfl, by simp⟩
theorem Sm.drew {a w : World} (h : Sm a w) : Sm a w.drew := h.trans ⟨rfl, rfl, rfl, Nat.le_refl _⟩
theorem Sm.drewN {a w : World} (h : Sm a w) (n : Nat) : Sm a (w.drewN n) := h.trans ⟨rfl, rfl, rfl, Nat.le_refl _⟩

/-- All that a world has. -/
def all (w : World) : Asr := fun h => h = fun b => w.heap[b]?
theorem holds_all (w : World) : Holds w (all w) := ⟨_, rfl, fun _ _ h => h⟩
theorem Holds.below {W w : World} {A : Asr} (h : Holds w (A * all W)) (s : Sm W w) : Below W.heap.size W w := by
  obtain ⟨x, rfl, k⟩ := h.right
  refine ⟨s.os, s.tape, s.output, s.size, fun b hb => ?_⟩
  rw [k b W.heap[b] (by simp [hb])]; simp [hb]

/-- What only makes memory keeps all that was there. -/
theorem Holds.grow {w w' : World} {A : Asr} (h : Holds w A) (g : Below w.heap.size w w') : Holds w' A := by
  obtain ⟨x, a, k⟩ := h
  refine ⟨x, a, fun b o hb => ?_⟩
  have := k b o hb
  rw [g.block b (Array.getElem?_eq_some_iff.1 this).1]; exact this
theorem Sm.of_below {w w' : World} {B : Nat} (g : Below B w w') : Sm w w' := ⟨g.os, g.tape, g.output, g.size⟩
theorem Sm.grow {a w w' : World} {B : Nat} (h : Sm a w) (g : Below B w w') : Sm a w' := h.trans (.of_below g)

theorem below_drewN {B : Nat} {a w : World} (h : Below B a w) (n : Nat) : Below B a (w.drewN n) := h.trans ⟨rfl, rfl, rfl, Nat.le_refl _, fun _ _ => rfl⟩

#print axioms Holds.alloc
#print axioms Holds.upd
#print axioms Holds.below
end Go.Sep
