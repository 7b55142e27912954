/-
  Layer 16: the words of Append, as plain data.
-/
import Derived.Test.YtefcinifaaablaaChainAbs
import Derived.Test.YtefcinifaaablaaSlabFl
namespace Go.Proofs.Ytefcinifaaablaa.Chain
open Go.RowKit Go.Sep
open Go.Proofs.Ytefcinifaaablaa.Slab (szOf szN szN_val clsFor Ar hdl hdlV ABlk allocA dropA writeA Took Src u8s)
set_option maxRecDepth 100000
set_option linter.unusedVariables false
set_option linter.unusedSimpArgs false

theorem roomF_all (P : Hd → Prop) : ∀ (f : Nat) (A : List (List ABlk)) (n : Int) (l : List Hd), (∀ h ∈ l, P h) → (∀ A n, (takeA A n).e = 0 → P (takeA A n).h) → ∀ h ∈ (roomF f A n l).l, P h
  | 0, A, n, l, hl, hT => hl
  | f + 1, A, n, l, hl, hT => by
    unfold roomF
    split
    · split
      · rename_i he
        exact roomF_all P f _ _ _ (fun h hh => by
          rcases List.mem_append.1 hh with h1 | h1
          · exact hl h h1
          · rw [List.mem_singleton.1 h1]; exact hT A n he) hT
      · simp
    · exact hl
theorem roomF_len : ∀ (f : Nat) (A : List (List ABlk)) (n : Int) (l : List Hd), (roomF f A n l).l.length ≤ l.length + f
  | 0, A, n, l => Nat.le_refl _
  | f + 1, A, n, l => by
    unfold roomF
    split
    · split
      · have := roomF_len f (takeA A n).A (n - szOf (takeA A n).h.1) (l ++ [(takeA A n).h])
        rw [List.length_append, List.length_singleton] at this
        omega
      · simp
    · show l.length ≤ _
      omega
theorem room_all (A : List (List ABlk)) (n : Int) : ∀ h ∈ (roomA A n).l, ∃ j : Nat, j < 4 ∧ h.1 = j :=
  roomF_all (fun h => ∃ j : Nat, j < 4 ∧ h.1 = j) _ A n [] (fun h hh => by cases hh) (fun A n he => takeA_cls A n he)

/-! ### Append -/
def putH (A : List (List ABlk)) (h : Hd) (at_ : Int) (bs : List Int) : List (List ABlk) := (writeA A h.1 h.2.1 h.2.2 at_ bs).A
structure Fs where
  A : List (List ABlk)
  at_ : Nat
def fillS (bs : List Int) (s : Fs) (h : Hd) : Fs := ⟨putH s.A h 0 ((bs.drop s.at_).take (min bs.length (s.at_ + (szOf h.1).toNat) - s.at_)), min bs.length (s.at_ + (szOf h.1).toNat)⟩
def fillL (bs : List Int) (s : Fs) (l : List Hd) : Fs := l.foldl (fillS bs) s
def sizes (l : List Hd) : Int := (l.map fun h => szOf h.1).sum
structure Appd where
  A : List (List ABlk)
  K : Ch
  e : Int
def lastS (A : List (List ABlk)) (K : Ch) (bs : List Int) : Fs := match K.l.getLast? with
  | none => ⟨A, 0⟩
  | some h => ⟨putH A h (szOf h.1 - (K.charge - K.long)) (bs.take (min bs.length (K.charge - K.long).toNat)), min bs.length (K.charge - K.long).toNat⟩
theorem sizes_le : ∀ (l : List Hd), (∀ h ∈ l, ∃ j : Nat, j < 4 ∧ h.1 = j) → 0 ≤ sizes l ∧ sizes l ≤ 4096 * l.length
  | [], _ => by simp [sizes]
  | h :: l, hl => by
    obtain ⟨j, hj, e⟩ := hl h (List.mem_cons_self ..)
    have h1 := szOf_64 j hj
    obtain ⟨h2, h3⟩ := sizes_le l (fun x hx => hl x (List.mem_cons_of_mem _ hx))
    have e2 : sizes (h :: l) = szOf j + sizes l := by simp [sizes, e]
    rw [e2, List.length_cons]
    omega
def appA (A : List (List ABlk)) (K : Ch) (bs : List Int) : Appd :=
  if K.freed then ⟨A, K, 16⟩ else if K.shared then ⟨A, K, 2⟩ else if 1048576 - K.long < bs.length then ⟨A, K, 3⟩ else
  let r := roomA A (bs.length - (K.charge - K.long))
  if r.e = 0 then ⟨(fillL bs (lastS r.A K bs) r.l).A, { K with l := K.l ++ r.l, charge := K.charge + sizes r.l, long := K.long + bs.length }, 0⟩
  else ⟨r.A, K, r.e⟩
structure OkC (K : Ch) : Prop where
  l0 : 0 ≤ K.long
  l1 : K.long ≤ 1048576
  c0 : K.long ≤ K.charge
  c1 : K.charge ≤ K.long + 4096
  n : K.l.length ≤ 20000
  nil : K.l = [] → K.charge = 0
  cls : ∀ h ∈ K.l, ∃ j : Nat, j < 4 ∧ h.1 = j
/-- the bytes that are put behind: where they lie -/
structure Bytes (F : Asr) (so : Option Addr) (sn sc : Nat) (bs : List Int) : Prop where
  src : ∀ (w : World) (G : Asr), Holds w (G * F) → Src w so sn bs
  len : bs.length = sn
  cap : sn ≤ sc
  big : sc ≤ 1099511627776
  b8 : ∀ x ∈ bs, 0 ≤ x ∧ x < 256
end Go.Proofs.Ytefcinifaaablaa.Chain
