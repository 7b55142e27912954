/-
  Layer 19: the clock in memory; move, drop.
-/
import Derived.Test.YtmaoboepmbioiaaClockTake
import Derived.StillTailTactics
namespace Go.Proofs.Ytmaoboepmbioiaa.Clock
open Go.RowKit Go.Sep
set_option maxRecDepth 100000
set_option linter.unusedVariables false
set_option linter.unusedSimpArgs false

structure Raw where
  a : Nat
  R : Nat
  P : Nat
  rb : Int → Nat
  most : Int
  target : Int
  E : List (Int × Nat)
  L : Int → List Nat
  f : Nat → Nd
  bs : List Nat
def iK (k : Int) : Value := .int .i64 k
def okK (k : Int) : Prop := (Lit.int .i64 k).wf = true
theorem intK : KeyT Try.prog 3 iK okK := intKey Try.underlying3
def ringsA (rb : Int → Nat) (L : Int → List Nat) : Asr := ringA (rb 1) (L 1) * (ringA (rb 2) (L 2) * ringA (rb 3) (L 3))
def hdA (a R P : Nat) (most target : Int) : Asr := pts a (.cells #[.int .i64 most, .int .i64 target, .map (some R), .map (some P)] 159 (0, 0))
def rmE (rb : Int → Nat) : List (Int × Nat) := [(1, rb 1), (2, rb 2), (3, rb 3)]
def rawA (D : Raw) : Asr := hdA D.a D.R D.P D.most D.target * (mapA iK pa okK D.R (rmE D.rb) * (mapA iK pa okK D.P D.E * (ringsA D.rb D.L * nodesA D.f D.bs)))

def isK (k : Int) : Prop := k = 1 ∨ k = 2 ∨ k = 3
structure Wf (L : Int → List Nat) (f : Nat → Nd) (bs : List Nat) : Prop where
  nd : bs.Nodup
  sub : ∀ k b, b ∈ L k → b ∈ bs
  ln : ∀ k, (L k).Nodup
  kind : ∀ k b, b ∈ L k → (f b).kind = k ∧ isK k
  rg : ∀ k, Rg f (L k)
  sz : ∀ k, (L k).length ≤ 9000

theorem rings_at (rb : Int → Nat) (L : Int → List Nat) (k : Int) (hk : isK k) : ∃ X, ∀ L' : Int → List Nat, (∀ j, j ≠ k → L' j = L j) → ringsA rb L' = ringA (rb k) (L' k) * X := by
  rcases hk with rfl | rfl | rfl
  · exact ⟨ringA (rb 2) (L 2) * ringA (rb 3) (L 3), fun L' h => by unfold ringsA; rw [h 2 (by decide), h 3 (by decide)]⟩
  · exact ⟨ringA (rb 1) (L 1) * ringA (rb 3) (L 3), fun L' h => by unfold ringsA; rw [h 1 (by decide), h 3 (by decide)]; ac_rfl⟩
  · exact ⟨ringA (rb 1) (L 1) * ringA (rb 2) (L 2), fun L' h => by unfold ringsA; rw [h 1 (by decide), h 2 (by decide)]; ac_rfl⟩
def outL (L : Int → List Nat) (p : Nat) : Int → List Nat := fun j => (L j).filter (· != p)
def inL (L : Int → List Nat) (p : Nat) (k : Int) : Int → List Nat := fun j => if j = k then L j ++ [p] else L j

theorem split_at {l : List Nat} {p : Nat} (h : p ∈ l) (hn : l.Nodup) : ∃ A B, l = A ++ p :: B ∧ l.filter (· != p) = A ++ B := by
  obtain ⟨A, B, rfl⟩ := List.append_of_mem h
  refine ⟨A, B, rfl, ?_⟩
  have h1 := List.nodup_append.1 hn
  have h2 := List.nodup_cons.1 h1.2.1
  rw [List.filter_append, List.filter_cons_of_neg (by simp), List.filter_eq_self.2, List.filter_eq_self.2]
  · intro b hb
    have : b ≠ p := by rintro rfl; exact h2.1 hb
    simpa using this
  · intro b hb
    have : b ≠ p := fun e => h1.2.2 b hb p (by simp) e
    simpa using this
theorem filter_no {l : List Nat} {p : Nat} (h : p ∉ l) : l.filter (· != p) = l := List.filter_eq_self.2 fun b hb => by
  have : b ≠ p := by rintro rfl; exact h hb
  simpa using this

/-- p taken out of its ring -/
theorem Wf.out {L : Int → List Nat} {f f' : Nat → Nd} {bs : List Nat} (h : Wf L f bs) (p : Nat) (k : Int) (hp : p ∈ L k) (hr : Rg f' (outL L p k)) (hk : Kept f f' (outL L p k)) : Wf (outL L p) f' bs := by
  have hsub : ∀ j b, b ∈ outL L p j → b ∈ L j := fun j b hb => (List.mem_filter.1 hb).1
  refine ⟨h.nd, fun j b hb => h.sub j b (hsub j b hb), fun j => (h.ln j).filter _, fun j b hb => ?_, fun j => ?_, fun j => Nat.le_trans (List.length_filter_le _ _) (h.sz j)⟩
  · rw [(hk b).2.1]; exact h.kind j b (hsub j b hb)
  · by_cases e : j = k
    · subst e; exact hr
    · have hno : p ∉ L j := fun hj => e ((h.kind j p hj).1.symm.trans (h.kind k p hp).1)
      have : outL L p j = L j := filter_no hno
      rw [this]
      refine rg_congr (fun b hb => ?_) (h.rg j)
      have : f' b = f b := (hk b).2.2.2 fun hb' => e ((h.kind j b hb).1.symm.trans (h.kind k b (hsub k b hb')).1)
      rw [this]; exact ⟨rfl, rfl⟩
theorem Wf.put {L : Int → List Nat} {f f' : Nat → Nd} {bs : List Nat} (h : Wf L f bs) (p : Nat) (k : Int) (hpb : p ∈ bs) (hp : ∀ j, p ∉ L j) (hik : isK k) (hfk : (f p).kind = k) (hr : Rg f' (L k ++ [p])) (hk : Kept f f' (p :: L k)) (hsz : (L k).length < 9000) : Wf (inL L p k) f' bs := by
  refine ⟨h.nd, fun j b hb => ?_, fun j => ?_, fun j b hb => ?_, fun j => ?_, fun j => ?_⟩
  · unfold inL at hb
    split at hb
    · simp only [List.mem_append, List.mem_singleton] at hb
      rcases hb with hb | rfl
      · exact h.sub j b hb
      · exact hpb
    · exact h.sub j b hb
  · unfold inL
    split
    · refine List.nodup_append.2 ⟨h.ln j, by simp, ?_⟩
      rintro x hx y hy rfl
      simp only [List.mem_singleton] at hy
      subst hy; exact hp j hx
    · exact h.ln j
  · rw [(hk b).2.1]
    unfold inL at hb
    split at hb
    · rename_i e
      simp only [List.mem_append, List.mem_singleton] at hb
      rcases hb with hb | rfl
      · exact h.kind j b hb
      · subst e; exact ⟨hfk, hik⟩
    · exact h.kind j b hb
  · unfold inL
    split
    · rename_i e; subst e; exact hr
    · rename_i e
      refine rg_congr (fun b hb => ?_) (h.rg j)
      have : f' b = f b := (hk b).2.2.2 fun hb' => by
        rcases List.mem_cons.1 hb' with rfl | hb'
        · exact hp j hb
        · exact e ((h.kind j b hb).1.symm.trans (h.kind k b hb').1)
      rw [this]; exact ⟨rfl, rfl⟩
  · unfold inL
    split
    · rename_i e; subst e; simp; omega
    · exact h.sz j
theorem Wf.kind0 {L : Int → List Nat} {f : Nat → Nd} {bs : List Nat} (h : Wf L f bs) (p : Nat) (hp : ∀ j, p ∉ L j) (d : Nd) : Wf L (up f p d) bs := by
  refine ⟨h.nd, h.sub, h.ln, fun j b hb => ?_, fun j => ?_, h.sz⟩
  · rw [up_other _ _ (by rintro rfl; exact hp j hb)]; exact h.kind j b hb
  · refine rg_congr (fun b hb => ?_) (h.rg j)
    rw [up_other _ _ (by rintro rfl; exact hp j hb)]; exact ⟨rfl, rfl⟩
theorem Wf.mark {L : Int → List Nat} {f : Nat → Nd} {bs : List Nat} (h : Wf L f bs) (p : Nat) (m : Bool) : Wf L (up f p { f p with mark := m }) bs := by
  have e : ∀ b, (up f p { f p with mark := m } b).kind = (f b).kind ∧ (up f p { f p with mark := m } b).nxt = (f b).nxt ∧ (up f p { f p with mark := m } b).lst = (f b).lst := by
    intro b; unfold up; split
    · rename_i e; subst e; exact ⟨rfl, rfl, rfl⟩
    · exact ⟨rfl, rfl, rfl⟩
  exact ⟨h.nd, h.sub, h.ln, fun j b hb => by rw [(e b).1]; exact h.kind j b hb, fun j => rg_congr (fun b _ => (e b).2) (h.rg j), h.sz⟩
end Go.Proofs.Ytmaoboepmbioiaa.Clock
