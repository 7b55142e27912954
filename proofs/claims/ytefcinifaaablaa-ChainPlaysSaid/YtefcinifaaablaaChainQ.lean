/-
  ChainPlays: plain laws of the state, its acts, its entries (four texts in one: a claim has at most 60 files).
-/
import Derived.Test.YtefcinifaaablaaChainFill
import Derived.Test.YtefcinifaaablaaChainEr
import Derived.Test.YtefcinifaaablaaRef16c
import Derived.Test.YtefcinifaaablaaRef16d
import Derived.Test.YtefcinifaaablaaRef16e
import Derived.Test.YtefcinifaaablaaChain5
import Derived.Test.YtefcinifaaablaaChain8
import Derived.Test.YtefcinifaaablaaRecs
import Derived.Test.YtefcinifaaablaaSlabRW
import Derived.Test.YtefcinifaaablaaChain6
import Derived.Laws.BytesArg
/-
  Layer 16, as plain data: how often blocks are held, under taking, letting go, holding and writing.
-/
namespace Go.Proofs.Ytefcinifaaablaa.Chain
open Go.RowKit Go.Sep
open Go.Proofs.Ytefcinifaaablaa.Slab (szOf szN szN_val clsFor ABlk allocA dropA dropB holdA writeA readA liveA freeA setA blkA rightA zeros Took)
open Go.Proofs.Ytefcinifaaablaa.Ref15 (WfA WfB ar_wf setA_len setA_row setA_get blkA_in blkA_cases)
set_option maxRecDepth 100000
set_option linter.unusedVariables false
set_option linter.unusedSimpArgs false

/-- how often a block is held; 0 where there is none -/
def hl (A : List (List ABlk)) (x y : Int) : Int := ((blkA A x y).getD ⟨0, 0, []⟩).held
theorem hl_in {A : List (List ABlk)} {c i : Nat} (hc : c < A.length) (hi : i < A[c].length) : hl A c i = A[c][i].held := by
  unfold hl; rw [blkA_in A c i hc hi]; rfl
theorem hl_set {A : List (List ABlk)} {c i : Nat} (hc : c < A.length) (hi : i < A[c].length) {b : ABlk} (x y : Int) : hl (setA A c i b) x y = if x = c ∧ y = i then b.held else hl A x y := by
  rcases blkA_cases A x y with ⟨e, hn⟩ | ⟨c2, i2, h1, h2, rfl, rfl⟩
  · rw [if_neg (hn c i hc hi)]
    rcases blkA_cases (setA A c i b) x y with ⟨e2, -⟩ | ⟨c2, i2, h1, h2, rfl, rfl⟩
    · unfold hl; rw [e, e2]
    · have g1 : c2 < A.length := by rw [setA_len] at h1; exact h1
      have g2 : i2 < A[c2].length := by rw [setA_row h1 g1] at h2; exact h2
      exact absurd ⟨rfl, rfl⟩ (hn c2 i2 g1 g2)
  · have g1 : c2 < (setA A c i b).length := by rw [setA_len]; exact h1
    have g2 : i2 < ((setA A c i b)[c2]'g1).length := by rw [setA_row g1 h1]; exact h2
    rw [hl_in g1 g2, setA_get g1 g2 h1 h2, hl_in h1 h2]
    by_cases e : c = c2 ∧ i = i2
    · rw [if_pos e, if_pos (by omega)]
    · rw [if_neg e, if_neg (by omega)]
theorem hl_nn {A : List (List ABlk)} (W : WfA A) (x y : Int) : 0 ≤ hl A x y := by
  rcases blkA_cases A x y with ⟨e, -⟩ | ⟨c, i, h1, h2, rfl, rfl⟩
  · unfold hl; rw [e]; exact Int.le_refl _
  · rw [hl_in h1 h2]; exact (W.at_ c i h1 h2).lo
theorem Rt.hl {A : List (List ABlk)} {h : Hd} (R : Rt A h) (W : WfA A) : 1 ≤ hl A h.1 h.2.1 := by
  obtain ⟨c, i, hc, hi, e1, e2, e3, e4⟩ := R
  have := (W.at_ c i hc hi).lo
  rw [e1, e2, hl_in hc hi]
  omega
theorem hl_rt {A : List (List ABlk)} {x y : Int} (h : hl A x y ≠ 0) : ∃ g, Rt A g ∧ g.1 = x ∧ g.2.1 = y := by
  rcases blkA_cases A x y with ⟨e, -⟩ | ⟨c, i, h1, h2, rfl, rfl⟩
  · unfold Chain.hl at h; rw [e] at h; exact absurd rfl h
  · rw [hl_in h1 h2] at h
    exact ⟨((c : Int), (i : Int), A[c][i].gen), ⟨c, i, h1, h2, rfl, rfl, h, rfl⟩, rfl, rfl⟩
def LeH (A B : List (List ABlk)) : Prop := ∀ x y, hl A x y ≠ 0 → hl B x y = hl A x y
theorem LeH.refl (A : List (List ABlk)) : LeH A A := fun x y _ => rfl
theorem LeH.trans {A B C : List (List ABlk)} (h : LeH A B) (k : LeH B C) : LeH A C := fun x y e => by
  have := h x y e
  rw [k x y (by rw [this]; exact e), this]
theorem alloc_le {A A' : List (List ABlk)} (W : WfA A) {j : Nat} (hj : j < 4) {h : Hd} (e : allocA A (szOf j) = ⟨A', h, 0⟩) : LeH A A' ∧ hl A h.1 h.2.1 = 0 := by
  have hl0 : j < A.length := by rw [W.len]; exact hj
  by_cases hf : freeA A[j] < A[j].length
  · obtain ⟨i, hi, h0, e2⟩ := alloc_free hl0 hj hf
    rw [e2] at e
    simp only [Took.mk.injEq, and_true] at e
    obtain ⟨rfl, rfl⟩ := e
    refine ⟨fun x y hx => ?_, by rw [hl_in hl0 hi]; exact h0⟩
    rw [hl_set hl0 hi, if_neg]
    rintro ⟨rfl, rfl⟩
    rw [hl_in hl0 hi] at hx
    exact hx h0
  · rw [alloc_full hl0 hj hf] at e
    simp at e
theorem take_le {A : List (List ABlk)} (W : WfA A) : ∀ (j : Nat), j ≤ 4 → ∀ {A' : List (List ABlk)} {h : Hd}, takeN j A = ⟨A', h, 0⟩ → LeH A A' ∧ hl A h.1 h.2.1 = 0
  | 0, _, A', h, e => by simp [takeN] at e
  | j + 1, hj, A', h, e => by
    unfold takeN at e
    rcases alloc_two W (show j < 4 by omega) with ⟨A2, h2, e2, e3, N⟩ | ⟨e2, e3⟩
    · rw [e2, if_pos rfl] at e
      simp only [Took.mk.injEq, and_true] at e
      obtain ⟨rfl, rfl⟩ := e
      exact alloc_le W (by omega) e2
    · rw [e2, if_neg (by simp)] at e
      exact take_le W j (by omega) e
/-- a list of handles leads to a block -/
def onB (l : List Hd) (x y : Int) : Bool := l.any fun h => decide (h.1 = x ∧ h.2.1 = y)
theorem onB_iff {l : List Hd} {x y : Int} : onB l x y = true ↔ ∃ h ∈ l, h.1 = x ∧ h.2.1 = y := by simp [onB]
theorem onB_cons (h : Hd) (l : List Hd) (x y : Int) : onB (h :: l) x y = (decide (h.1 = x ∧ h.2.1 = y) || onB l x y) := by simp [onB]
theorem drop_one {A : List (List ABlk)} (W : WfA A) {h : Hd} (R : Rt A h) :
    WfA (dropH A h) ∧ (∀ x y, hl (dropH A h) x y = hl A x y - if h.1 = x ∧ h.2.1 = y then 1 else 0) ∧ (∀ g, Rt A g → (other g h ∨ 2 ≤ hl A h.1 h.2.1) → Keep A (dropH A h) g) ∧ ∀ d, sh (dropH A h) d = sh A d := by
  obtain ⟨c, i, hc, hi, e1, e2, e3, e4⟩ := R
  obtain ⟨h0, h1, h2⟩ := h
  simp only at e1 e2 e4
  subst e1
  subst e2
  have hr : rightA A c i h2 = true := by
    unfold rightA
    rw [blkA_in A c i hc hi]
    simp [e3, e4]
  have ed : dropH A ((c : Int), (i : Int), h2) = setA A c i (dropB A[c][i]) := by
    show (dropA A c i h2).A = _
    unfold dropA
    rw [if_pos hr, blkA_in A c i hc hi]
    rfl
  rw [ed]
  have wb := W.at_ c i hc hi
  have wlo := wb.lo
  have whi := wb.hi
  have hz : WfB (szN c) (dropB A[c][i]) := by
    refine ⟨?_, ?_, ?_, ?_, ?_⟩
    · simp only [dropB]; omega
    · simp only [dropB]; omega
    · simp only [dropB]; split <;> simp [zeros, wb.len]
    · intro hz; simp only [dropB] at hz ⊢; rw [if_pos (by omega), wb.len]
    · simp only [dropB]
      split
      · intro x hx; simp only [zeros] at hx; have := (List.mem_replicate.1 hx).2; omega
      · exact wb.byte
  refine ⟨WfA.set W hz, fun x y => ?_, fun g hg ho => ?_, fun d => sh_set d⟩
  · rw [hl_set hc hi]
    by_cases e : x = c ∧ y = i
    · rw [if_pos e, if_pos ⟨e.1.symm, e.2.symm⟩, e.1, e.2, hl_in hc hi]; rfl
    · rw [if_neg e, if_neg (by intro q; exact e ⟨q.1.symm, q.2.symm⟩)]; omega
  · by_cases e : g.1 = c ∧ g.2.1 = i
    · have h2 : 2 ≤ A[c][i].held := by
        rcases ho with ho | ho
        · exact absurd e ho
        · simp only at ho
          rw [hl_in hc hi] at ho; exact ho
      have hd : (dropB A[c][i]).held ≠ 0 := by simp only [dropB]; omega
      obtain ⟨q1, q2, q3⟩ := rt_same hc hi hg e hd rfl
      refine ⟨q1, ?_⟩
      rw [q2, q3]
      simp only [dropB]
      rw [if_neg (by omega)]
    · exact rt_set hg e
theorem drops_many : ∀ (l : List Hd) (A : List (List ABlk)), WfA A → (∀ h ∈ l, Rt A h) → l.Pairwise (fun g h => other g h) →
    WfA (dropsA A l) ∧ (∀ x y, hl (dropsA A l) x y = hl A x y - if onB l x y = true then 1 else 0) ∧ (∀ g, Rt A g → (∀ h ∈ l, other g h ∨ 2 ≤ hl A h.1 h.2.1) → Keep A (dropsA A l) g) ∧ ∀ d, sh (dropsA A l) d = sh A d
  | [], A, W, _, _ => ⟨W, fun x y => by simp [dropsA, onB], fun g R _ => Keep.refl R, fun d => rfl⟩
  | h :: l, A, W, hr, hp => by
    obtain ⟨w1, h1, k1, s1⟩ := drop_one W (hr h (List.mem_cons_self ..))
    have pw := List.pairwise_cons.1 hp
    have sym : ∀ g ∈ l, other g h := fun g hg ⟨q1, q2⟩ => pw.1 g hg ⟨q1.symm, q2.symm⟩
    obtain ⟨w2, h2, k2, s2⟩ := drops_many l (dropH A h) w1 (fun g hg => (k1 g (hr g (List.mem_cons_of_mem _ hg)) (.inl (sym g hg))).1) pw.2
    refine ⟨w2, fun x y => ?_, fun g R ho => ?_, fun d => (s2 d).trans (s1 d)⟩
    · show hl (dropsA (dropH A h) l) x y = _
      rw [h2, h1, onB_cons]
      by_cases e : h.1 = x ∧ h.2.1 = y
      · have hn : ¬ onB l x y = true := by
          rw [onB_iff]
          rintro ⟨g, hg, q1, q2⟩
          exact pw.1 g hg ⟨by rw [e.1, q1], by rw [e.2, q2]⟩
        rw [if_pos e, if_neg hn]
        simp [e]
      · rw [if_neg e]
        simp [e]
    · have q1 := k1 g R (ho h (List.mem_cons_self ..))
      refine q1.trans (k2 g q1.1 fun x hx => ?_)
      rcases ho x (List.mem_cons_of_mem _ hx) with q | q
      · exact .inl q
      · refine .inr ?_
        rw [h1, if_neg]
        · omega
        · rintro ⟨p1, p2⟩
          exact pw.1 x hx ⟨p1, p2⟩
theorem hold_one {A : List (List ABlk)} (W : WfA A) {h : Hd} (R : Rt A h) :
    WfA (holdH A h) ∧ (∀ x y, hl A x y ≤ hl (holdH A h) x y ∧ (h.1 = x ∧ h.2.1 = y → hl A x y + 1 ≤ hl (holdH A h) x y ∨ 1048576 ≤ hl (holdH A h) x y)) ∧ (∀ g, Rt A g → Keep A (holdH A h) g) ∧ ∀ d, sh (holdH A h) d = sh A d := by
  obtain ⟨c, i, hc, hi, e1, e2, e3, e4⟩ := R
  obtain ⟨h0, h1, h2⟩ := h
  simp only at e1 e2 e4
  subst e1
  subst e2
  have hr : rightA A c i h2 = true := by
    unfold rightA
    rw [blkA_in A c i hc hi]
    simp [e3, e4]
  have wb := W.at_ c i hc hi
  have wlo := wb.lo
  have whi := wb.hi
  by_cases hm : A[c][i].held = 1048576
  · have ed : holdH A ((c : Int), (i : Int), h2) = A := by
      show (holdA A c i h2).A = _
      unfold holdA
      rw [if_pos hr, blkA_in A c i hc hi]
      simp only [Option.getD_some]
      rw [if_pos hm]
    rw [ed]
    refine ⟨W, fun x y => ⟨Int.le_refl _, fun ⟨q1, q2⟩ => .inr ?_⟩, fun g hg => Keep.refl hg, fun d => rfl⟩
    simp only at q1 q2
    rw [← q1, ← q2, hl_in hc hi]
    omega
  · have ed : holdH A ((c : Int), (i : Int), h2) = setA A c i { A[c][i] with held := A[c][i].held + 1 } := by
      show (holdA A c i h2).A = _
      unfold holdA
      rw [if_pos hr, blkA_in A c i hc hi]
      simp only [Option.getD_some]
      rw [if_neg hm]
    rw [ed]
    refine ⟨WfA.set W ⟨by show 0 ≤ A[c][i].held + 1; omega, by show A[c][i].held + 1 ≤ _; omega, wb.len, fun e => by (have e : A[c][i].held + 1 = 0 := e); omega, wb.byte⟩, fun x y => ?_, fun g hg => ?_, fun d => sh_set d⟩
    · rw [hl_set hc hi]
      by_cases e : x = c ∧ y = i
      · rw [if_pos e, e.1, e.2, hl_in hc hi]
        refine ⟨?_, fun _ => .inl ?_⟩
        · show _ ≤ A[c][i].held + 1; omega
        · show _ ≤ A[c][i].held + 1; omega
      · rw [if_neg e]
        exact ⟨Int.le_refl _, fun q => absurd ⟨q.1.symm, q.2.symm⟩ e⟩
    · by_cases e : g.1 = c ∧ g.2.1 = i
      · obtain ⟨q1, q2, q3⟩ := rt_same hc hi (b := { A[c][i] with held := A[c][i].held + 1 }) hg e (by show A[c][i].held + 1 ≠ 0; omega) rfl
        exact ⟨q1, by rw [q2, q3]⟩
      · exact rt_set hg e
theorem holds_many : ∀ (l : List Hd) (A : List (List ABlk)), WfA A → (∀ h ∈ l, Rt A h) →
    WfA (holdsA A l) ∧ (∀ x y, hl A x y ≤ hl (holdsA A l) x y ∧ (onB l x y = true → hl A x y + 1 ≤ hl (holdsA A l) x y ∨ 1048576 ≤ hl (holdsA A l) x y)) ∧ (∀ g, Rt A g → Keep A (holdsA A l) g) ∧ ∀ d, sh (holdsA A l) d = sh A d
  | [], A, W, _ => ⟨W, fun x y => ⟨Int.le_refl _, fun h => by simp [onB] at h⟩, fun g R => Keep.refl R, fun d => rfl⟩
  | h :: l, A, W, hr => by
    obtain ⟨w1, h1, k1, s1⟩ := hold_one W (hr h (List.mem_cons_self ..))
    obtain ⟨w2, h2, k2, s2⟩ := holds_many l (holdH A h) w1 fun g hg => (k1 g (hr g (List.mem_cons_of_mem _ hg))).1
    refine ⟨w2, fun x y => ?_, fun g R => (k1 g R).trans (k2 g (k1 g R).1), fun d => (s2 d).trans (s1 d)⟩
    obtain ⟨a1, a2⟩ := h1 x y
    obtain ⟨b1, b2⟩ := h2 x y
    have ex : holdsA A (h :: l) = holdsA (holdH A h) l := rfl
    rw [ex]
    refine ⟨by omega, fun q => ?_⟩
    rw [onB_cons, Bool.or_eq_true] at q
    rcases q with q | q
    · have := a2 (by simpa using q)
      omega
    · have := b2 q
      omega
theorem put_hl {A : List (List ABlk)} (h : Hd) (at_ : Int) (bs : List Int) (x y : Int) : hl (putH A h at_ bs) x y = hl A x y := by
  obtain ⟨h0, h1, h2⟩ := h
  show hl (writeA A h0 h1 h2 at_ bs).A x y = _
  unfold writeA
  split
  · rename_i hr
    rcases blkA_cases A h0 h1 with ⟨e, -⟩ | ⟨c, i, hc, hi, rfl, rfl⟩
    · unfold rightA at hr; rw [e] at hr; simp at hr
    · rw [blkA_in A c i hc hi]
      simp only [Option.getD_some]
      split
      · rfl
      · rw [hl_set hc hi]
        split
        · rename_i e
          rw [e.1, e.2, hl_in hc hi]
        · rfl
  · rfl
theorem fill_hl (bs : List Int) : ∀ (l : List Hd) (s : Fs) (x y : Int), hl (fillL bs s l).A x y = hl s.A x y
  | [], s, x, y => rfl
  | h :: l, s, x, y => (fill_hl bs l (fillS bs s h) x y).trans (put_hl h 0 _ x y)
theorem last_hl (A : List (List ABlk)) (K : Ch) (bs : List Int) (x y : Int) : hl (lastS A K bs).A x y = hl A x y := by
  unfold lastS
  split
  · rfl
  · exact put_hl _ _ _ x y
theorem fill_er (bs : List Int) : ∀ (l : List Hd) (s : Fs), er (fillL bs s l).A = er s.A
  | [], s => rfl
  | h :: l, s => (fill_er bs l (fillS bs s h)).trans (er_write _ _ _ _ _ _)
theorem last_er (A : List (List ABlk)) (K : Ch) (bs : List Int) : er (lastS A K bs).A = er A := by
  unfold lastS
  split
  · rfl
  · exact er_write _ _ _ _ _ _
theorem roomF_hl (A0 : List (List ABlk)) : ∀ (f : Nat) (A : List (List ABlk)) (n : Int) (l : List Hd), WfA A → Own A l → LeH A0 A → (∀ h ∈ l, hl A0 h.1 h.2.1 = 0) → LeH A0 (roomF f A n l).A
  | 0, A, n, l, W, O, L, hz => L
  | f + 1, A, n, l, W, O, L, hz => by
    unfold roomF
    by_cases hp : 0 < n
    · rw [if_pos hp]
      have h3 := topC_le n
      rcases takeN_two W (topC n + 1) (by omega) with ⟨A', h, e, ⟨c, c1, c2, -⟩, N⟩ | ⟨e, -⟩
      · have e' : takeA A n = ⟨A', h, 0⟩ := e
        obtain ⟨k1, k2⟩ := take_le W (topC n + 1) (by omega) e
        rw [e', if_pos rfl]
        refine roomF_hl A0 f A' _ (l ++ [h]) N.wf (O.snoc N) (L.trans k1) fun x hx => ?_
        rcases List.mem_append.1 hx with hx | hx
        · exact hz x hx
        · rw [List.mem_singleton.1 hx]
          refine Classical.byContradiction fun q => ?_
          have := L _ _ q
          omega
      · have e' : takeA A n = ⟨A, (0, 0, 0), 14⟩ := e
        rw [e', if_neg (by simp)]
        obtain ⟨-, d2, -, -⟩ := drops_many l A W (fun h hh => (O.tk h hh).rt) O.pw
        intro x y q
        show hl (dropsA A l) x y = _
        rw [d2, if_neg, L x y q]
        · omega
        · rw [onB_iff]
          rintro ⟨h, hh, rfl, rfl⟩
          exact q (hz h hh)
    · rw [if_neg hp]; exact L
theorem room_hl {A : List (List ABlk)} (W : WfA A) (n : Int) : LeH A (roomA A n).A :=
  roomF_hl A _ A n [] W (Own.nil A) (LeH.refl A) (fun h hh => by simp at hh)
#print axioms room_hl
#print axioms holds_many
end Go.Proofs.Ytefcinifaaablaa.Chain

/-
  Layer 16, as plain data: chains of one arena beside the document's, call by call.
-/
namespace Go.Proofs.Ytefcinifaaablaa.Chain
open Go.RowKit Go.Sep
open Go.Proofs.Ytefcinifaaablaa.Slab (szOf szN szN_val clsFor ABlk allocA dropA dropB holdA writeA readA liveA freeA setA blkA rightA zeros Took)
open Go.Proofs.Ytefcinifaaablaa.Ref15 (WfA WfB ar_wf setA_len setA_row setA_get blkA_in blkA_cases)
set_option maxRecDepth 100000
set_option linter.unusedVariables false
set_option linter.unusedSimpArgs false

/-- how many blocks of its own a chain can have -/
theorem own_len {A : List (List ABlk)} (W : WfA A) (Z : ∀ d, d < 4 → sh A d ≤ 300) {l : List Hd} (hr : ∀ h ∈ l, Rt A h) (hp : l.Pairwise fun g h => other g h) : l.length ≤ 1204 := by
  have key := nodup_lt 1204 (l.map fun h => h.1.toNat * 301 + h.2.1.toNat) ?_ ?_
  · simpa using key
  · rw [List.nodup_iff_pairwise_ne, List.pairwise_map]
    refine (List.Pairwise.and_mem.1 hp).imp ?_
    rintro g h ⟨hg, hh, ho⟩ e
    obtain ⟨c, i, hc, hi, e1, e2, -⟩ := hr g hg
    obtain ⟨c', i', hc', hi', f1, f2, -⟩ := hr h hh
    have z1 := Z c (by have := W.len; omega)
    have z2 := Z c' (by have := W.len; omega)
    rw [sh_at hc] at z1
    rw [sh_at hc'] at z2
    rw [e1, e2, f1, f2] at e
    simp only [Int.toNat_natCast] at e
    exact ho ⟨by rw [e1, f1]; omega, by rw [e2, f2]; omega⟩
  · intro x hx
    obtain ⟨h, hh, rfl⟩ := List.mem_map.1 hx
    obtain ⟨c, i, hc, hi, e1, e2, -⟩ := hr h hh
    have h4 := W.len
    have z1 := Z c (by omega)
    rw [sh_at hc] at z1
    rw [e1, e2]
    simp only [Int.toNat_natCast]
    omega
/-- what is wanted of a chain's numbers, by its bytes -/
theorem Cont.ok {A : List (List ABlk)} {K : Ch} {B : List Int} (W : WfA A) (Z : ∀ d, d < 4 → sh A d ≤ 300) (C : Cont A K B) (hB : B.length ≤ 1048576) : OkC K ∧ K.l.length ≤ 1204 := by
  have hn := own_len W Z C.rt C.pw
  have hlg := C.lg
  have hcg := C.cg
  have hcl := cat_len W K.l C.rt
  have cls : ∀ h ∈ K.l, ∃ j : Nat, j < 4 ∧ h.1 = j := fun h hh => ((C.rt h hh).get W).2.2.2.2
  have hle : B.length ≤ (cat A K.l).length := by
    have := congrArg List.length C.ct
    rw [List.length_take] at this
    omega
  refine ⟨⟨by omega, by omega, by omega, ?_, by omega, fun e => by rw [hcg, e]; rfl, cls⟩, hn⟩
  cases hg : K.l.getLast? with
  | none =>
    have hnil : K.l = [] := List.getLast?_eq_none_iff.1 hg
    rw [hcg, hnil, sizes_nil]
    omega
  | some h =>
    have h1 := C.last h hg
    obtain ⟨j, hj, e⟩ := cls h (List.mem_of_getLast? hg)
    have := szOf_64 j hj
    rw [e] at h1
    omega
structure Pair (A : List (List ABlk)) (K : Ch) (R : RCh) : Prop where
  l : K.l = R.l
  sd : K.shared = R.shared
  fd : K.freed = R.freed
  ok : OkC K
  n : K.l.length ≤ 1204
  bl : R.bytes.length ≤ 1048576
  lg : K.long = R.bytes.length
  ct : K.freed = false → Cont A K R.bytes
def onC (x y : Int) (K : Ch) : Bool := !K.freed && onB K.l x y
def cnt2 (Ks : List Ch) (x y : Int) : Nat := Ks.countP (onC x y)
structure St (A : List (List ABlk)) (Ks : List Ch) (Rs : List RCh) : Prop where
  wf : WfA A
  z : ∀ d, d < 4 → sh A d ≤ 300
  len : Ks.length = Rs.length
  pr : ∀ i (h : i < Ks.length) (h' : i < Rs.length), Pair A Ks[i] Rs[i]
  ct : ∀ x y, (cnt2 Ks x y : Int) ≤ hl A x y
  un : ∀ i j (hi : i < Ks.length) (hj : j < Ks.length), i ≠ j → Ks[i].freed = false → Ks[i].shared = false → Ks[j].freed = false → ∀ g ∈ Ks[j].l, ∀ h ∈ Ks[i].l, other g h
def ch0 : Ch := ⟨[], 0, 0, false, false⟩
def rch0 : RCh := ⟨[], [], false, false⟩
theorem pair0 (A : List (List ABlk)) : Pair A ch0 rch0 :=
  ⟨rfl, rfl, rfl, ⟨by simp [ch0], by simp [ch0], by simp [ch0], by simp [ch0], by simp [ch0], fun _ => rfl, fun h hh => by simp [ch0] at hh⟩, by simp [ch0], by simp [rch0], rfl, fun _ => ⟨fun h hh => by simp [ch0] at hh, List.Pairwise.nil, rfl, rfl, by simp [rch0], fun h hh => by simp [ch0] at hh⟩⟩
theorem other_symm {g h : Hd} (o : other g h) : other h g := fun ⟨q1, q2⟩ => o ⟨q1.symm, q2.symm⟩
theorem onC_none {x y : Int} {K : Ch} (h : K.freed = true ∨ onB K.l x y = false) : onC x y K = false := by
  rcases h with h | h <;> simp [onC, h]
theorem St.nil {A : List (List ABlk)} (W : WfA A) (Z : ∀ d, d < 4 → sh A d ≤ 300) : St A [] [] :=
  ⟨W, Z, rfl, fun i h => by simp at h, fun x y => by have := hl_nn W x y; simpa [cnt2] using this, fun i j hi => by simp at hi⟩
/-- one more chain -/
theorem St.more {A : List (List ABlk)} {Ks : List Ch} {Rs : List RCh} (S : St A Ks Rs) {K : Ch} {R : RCh} (P : Pair A K R) (hc : ∀ x y, ((cnt2 Ks x y + if onC x y K = true then 1 else 0 : Nat) : Int) ≤ hl A x y)
    (hu : ∀ j (hj : j < Ks.length), K.freed = false → Ks[j].freed = false → (K.shared = false ∨ Ks[j].shared = false) → ∀ g ∈ Ks[j].l, ∀ h ∈ K.l, other g h) : St A (Ks ++ [K]) (Rs ++ [R]) := by
  have hlen := S.len
  refine ⟨S.wf, S.z, by simp [hlen], fun i h h' => ?_, fun x y => ?_, fun i j hi hj hne => ?_⟩
  · by_cases e : i < Ks.length
    · rw [List.getElem_append_left e, List.getElem_append_left (by omega)]
      exact S.pr i e (by omega)
    · have e2 : i = Ks.length := by simp at h; omega
      subst e2
      rw [List.getElem_append_right (by omega), List.getElem_append_right (by omega)]
      simpa [hlen] using P
  · have := hc x y
    unfold cnt2 at this ⊢
    rw [List.countP_append, List.countP_singleton]
    exact this
  · have hi' : i < Ks.length + 1 := by simpa using hi
    have hj' : j < Ks.length + 1 := by simpa using hj
    have g : ∀ i (hi : i < (Ks ++ [K]).length) (e : i < Ks.length), (Ks ++ [K])[i] = Ks[i] := fun i hi e => List.getElem_append_left e
    have g2 : ∀ i (hi : i < (Ks ++ [K]).length) (e : ¬ i < Ks.length), (Ks ++ [K])[i] = K := fun i hi e => by
      rw [List.getElem_append_right (by omega)]; simp
    by_cases ei : i < Ks.length
    · by_cases ej : j < Ks.length
      · rw [g i hi ei, g j hj ej]; exact S.un i j ei ej hne
      · rw [g i hi ei, g2 j hj ej]
        intro f1 s1 f2 x hx h hh
        exact other_symm (hu i ei f2 f1 (.inr s1) h hh x hx)
    · by_cases ej : j < Ks.length
      · rw [g2 i hi ei, g j hj ej]
        intro f1 s1 f2 x hx h hh
        exact hu j ej f1 f2 (.inl s1) x hx h hh
      · omega
theorem St.new {A : List (List ABlk)} {Ks : List Ch} {Rs : List RCh} (S : St A Ks Rs) : St A (Ks ++ [ch0]) (Rs ++ [rch0]) :=
  S.more (pair0 A) (fun x y => by
    have := S.ct x y
    rw [if_neg (by simp [onC, onB, ch0])]
    simpa using this) (fun j hj _ _ _ g hg h hh => by simp [ch0] at hh)
/-- one chain turns, and the arena with it -/
theorem St.upd {A A' : List (List ABlk)} {Ks : List Ch} {Rs : List RCh} (S : St A Ks Rs) {k : Nat} (hk : k < Ks.length) (W : WfA A') (Z : ∀ d, sh A' d = sh A d) {K : Ch} {R : RCh} (P : Pair A' K R)
    (hkp : ∀ j (hj : j < Ks.length), j ≠ k → Ks[j].freed = false → ∀ g ∈ Ks[j].l, Keep A A' g)
    (hc : ∀ x y, (cnt2 (Ks.set k K) x y : Int) ≤ hl A' x y)
    (hu : ∀ j (hj : j < Ks.length), j ≠ k → K.freed = false → Ks[j].freed = false → (K.shared = false ∨ Ks[j].shared = false) → ∀ g ∈ Ks[j].l, ∀ h ∈ K.l, other g h) : St A' (Ks.set k K) (Rs.set k R) := by
  have hlen := S.len
  refine ⟨W, fun d hd => by rw [Z d]; exact S.z d hd, by simp [hlen], fun i h h' => ?_, hc, fun i j hi hj hne => ?_⟩
  · have hi : i < Ks.length := by simpa using h
    rw [List.getElem_set, List.getElem_set]
    by_cases e : k = i
    · rw [if_pos e, if_pos e]; exact P
    · rw [if_neg e, if_neg e]
      have p := S.pr i hi (by omega)
      exact ⟨p.l, p.sd, p.fd, p.ok, p.n, p.bl, p.lg, fun f => (p.ct f).keep fun g hg => hkp i hi (by omega) f g hg⟩
  · have hi' : i < Ks.length := by simpa using hi
    have hj' : j < Ks.length := by simpa using hj
    rw [List.getElem_set, List.getElem_set]
    by_cases ei : k = i
    · rw [if_pos ei, if_neg (by omega)]
      intro f1 s1 f2 x hx h hh
      exact hu j hj' (by omega) f1 f2 (.inl s1) x hx h hh
    · rw [if_neg ei]
      by_cases ej : k = j
      · rw [if_pos ej]
        intro f1 s1 f2 x hx h hh
        exact other_symm (hu i hi' (by omega) f2 f1 (.inr s1) h hh x hx)
      · rw [if_neg ej]
        exact S.un i j hi' hj' hne
theorem cnt2_set {Ks : List Ch} {k : Nat} (hk : k < Ks.length) (K : Ch) (x y : Int) : cnt2 (Ks.set k K) x y + (if onC x y Ks[k] = true then 1 else 0) = cnt2 Ks x y + (if onC x y K = true then 1 else 0) := by
  unfold cnt2
  rw [List.countP_set (h := hk)]
  by_cases e : onC x y Ks[k] = true
  · have h1 : 0 < Ks.countP (onC x y) := List.countP_pos_iff.2 ⟨_, List.getElem_mem hk, e⟩
    rw [if_pos e]; omega
  · rw [if_neg e]; omega
theorem onC_live {x y : Int} {K : Ch} (h : K.freed = false) : onC x y K = onB K.l x y := by simp [onC, h]
/-- Append -/
theorem St.append {A : List (List ABlk)} {Ks : List Ch} {Rs : List RCh} (S : St A Ks Rs) {k : Nat} (hk : k < Ks.length) (hk' : k < Rs.length) (bs : List Int) (hb8 : ∀ v ∈ bs, 0 ≤ v ∧ v < 256) :
    (appA A Ks[k] bs).e = (rappA A Rs[k] bs).e ∧ er (rappA A Rs[k] bs).A = er (appA A Ks[k] bs).A ∧ St (appA A Ks[k] bs).A (Ks.set k (appA A Ks[k] bs).K) (Rs.set k (rappA A Rs[k] bs).R) := by
  have P := S.pr k hk hk'
  obtain ⟨K, hK⟩ : ∃ q, Ks[k] = q := ⟨_, rfl⟩
  obtain ⟨R, hR⟩ : ∃ q, Rs[k] = q := ⟨_, rfl⟩
  rw [hK, hR] at P ⊢
  have same : St A (Ks.set k K) (Rs.set k R) := by
    rw [← hK, ← hR, List.set_getElem_self, List.set_getElem_self]; exact S
  unfold appA rappA
  by_cases hf : K.freed = true
  · have hf2 : R.freed = true := by rw [← P.fd]; exact hf
    simp only [if_pos hf, if_pos hf2]
    exact ⟨by trivial, by trivial, same⟩
  have hf2 : ¬ R.freed = true := by rw [← P.fd]; exact hf
  simp only [if_neg hf, if_neg hf2]
  by_cases hs : K.shared = true
  · have hs2 : R.shared = true := by rw [← P.sd]; exact hs
    simp only [if_pos hs, if_pos hs2]
    exact ⟨by trivial, by trivial, same⟩
  have hs2 : ¬ R.shared = true := by rw [← P.sd]; exact hs
  simp only [if_neg hs, if_neg hs2]
  have hf' : K.freed = false := by simpa using hf
  have hs' : K.shared = false := by simpa using hs
  have C := P.ct hf'
  by_cases hb : 1048576 - K.long < bs.length
  · have hb2 : 1048576 - (R.bytes.length : Int) < bs.length := by rw [← P.lg]; exact hb
    simp only [if_pos hb, if_pos hb2]
    exact ⟨by trivial, by trivial, same⟩
  have hb2 : ¬ 1048576 - (R.bytes.length : Int) < bs.length := by rw [← P.lg]; exact hb
  simp only [if_neg hb, if_neg hb2]
  rw [← P.l, ← P.lg, ← C.cg]
  obtain ⟨r, hr⟩ : ∃ q, roomA A ((bs.length : Int) - (K.charge - K.long)) = q := ⟨_, rfl⟩
  have LH := room_hl S.wf ((bs.length : Int) - (K.charge - K.long))
  have KF := roomF_keep ((bs.length : Int) - (K.charge - K.long)).toNat A ((bs.length : Int) - (K.charge - K.long)) [] S.wf (Own.nil A) (by omega)
  have T := roomA_two S.wf ((bs.length : Int) - (K.charge - K.long))
  change (∃ A' l', roomA A ((bs.length : Int) - (K.charge - K.long)) = _ ∧ _) ∨ (∃ A', roomA A ((bs.length : Int) - (K.charge - K.long)) = _ ∧ _) at KF
  obtain ⟨A1, l, e⟩ := r
  rw [hr] at LH KF T ⊢
  simp only at LH ⊢
  by_cases he : e = 0
  · subst he
    simp only [if_true]
    refine ⟨by trivial, by show er A1 = _; rw [fill_er, last_er], ?_⟩
    show St (fillL bs (lastS A1 K bs) l).A (Ks.set k { K with l := K.l ++ l, charge := K.charge + sizes l, long := K.long + bs.length }) (Rs.set k { R with l := K.l ++ l, bytes := R.bytes ++ bs })
    obtain ⟨w2, C2, kp, ot⟩ := append_cont S.wf P.ok C hb8 hr
    obtain ⟨p1, -⟩ := append_same A1 K bs l
    have shE : ∀ d, sh (fillL bs (lastS A1 K bs) l).A d = sh A d := fun d => by
      rw [p1]
      rcases T with ⟨A', l', q, -, -, q4, -⟩ | ⟨A', q, -⟩
      · simp only [Room.mk.injEq, and_true] at q
        rw [q.1]; exact q4 d
      · simp at q
    have hl2 : LeH A (fillL bs (lastS A1 K bs) l).A := fun x y q => by rw [fill_hl, last_hl]; exact LH x y q
    have hblen : (R.bytes ++ bs).length ≤ 1048576 := by
      rw [List.length_append]
      have := P.lg
      omega
    obtain ⟨ok2, n2⟩ := C2.ok w2 (fun d hd => by rw [shE]; exact S.z d hd) hblen
    have disj : ∀ j (hj : j < Ks.length), j ≠ k → Ks[j].freed = false → ∀ g ∈ Ks[j].l, Rt A g ∧ ∀ h ∈ K.l, other g h := fun j hj hne fj g hg => by
      have pj := S.pr j hj (by have := S.len; omega)
      refine ⟨(pj.ct fj).rt g hg, fun h hh => ?_⟩
      have := S.un k j hk hj (by omega) (by rw [hK]; exact hf') (by rw [hK]; exact hs') fj g hg h (by rw [hK]; exact hh)
      exact this
    refine S.upd hk w2 shE ⟨by show K.l ++ l = K.l ++ l; rfl, P.sd, P.fd, ok2, n2, hblen, by show K.long + _ = ((R.bytes ++ bs).length : Nat); rw [List.length_append, P.lg]; omega, fun _ => C2⟩ ?_ ?_ ?_
    · intro j hj hne fj g hg
      obtain ⟨d1, d2⟩ := disj j hj hne fj g hg
      exact kp g d1 d2
    · intro x y
      have hcs := cnt2_set hk { K with l := K.l ++ l, charge := K.charge + sizes l, long := K.long + bs.length } x y
      rw [hK, onC_live (K := K) hf', onC_live (K := { K with l := K.l ++ l, charge := K.charge + sizes l, long := K.long + bs.length }) hf'] at hcs
      have hon : onB (K.l ++ l) x y = (onB K.l x y || onB l x y) := by simp [onB]
      simp only at hcs
      rw [hon] at hcs
      have h0 := S.ct x y
      by_cases hz : hl A x y = 0
      · have hn2 := hl_nn w2 x y
        by_cases hon2 : (onB K.l x y || onB l x y) = true
        · rw [if_pos hon2] at hcs
          obtain ⟨g, hg, g1, g2⟩ := onB_iff.1 (hon.trans hon2)
          have := (C2.rt g hg).hl w2
          rw [g1, g2] at this
          omega
        · rw [if_neg hon2] at hcs
          omega
      · rw [hl2 x y hz]
        have hl0 : onB l x y = false := by
          cases hq : onB l x y with
          | false => rfl
          | true =>
            obtain ⟨g, hg, g1, g2⟩ := onB_iff.1 hq
            obtain ⟨g', Rg, q1, q2⟩ := hl_rt hz
            exact absurd ⟨by rw [q1, g1], by rw [q2, g2]⟩ (ot g' Rg g hg)
        rw [hl0, Bool.or_false] at hcs
        omega
    · intro j hj hne _ fj _ g hg h hh
      obtain ⟨d1, d2⟩ := disj j hj hne fj g hg
      rcases List.mem_append.1 hh with hh | hh
      · exact d2 h hh
      · exact ot g d1 h hh
  · simp only [if_neg he]
    rcases T with ⟨A', l', q, -⟩ | ⟨A', q, -, w2, s2, -⟩
    · simp only [Room.mk.injEq] at q; exact absurd q.2.2 he
    rcases KF with ⟨A'', l', q', -⟩ | ⟨A'', q', kp⟩
    · simp only [Room.mk.injEq] at q'; exact absurd q'.2.2 he
    simp only [Room.mk.injEq] at q q'
    obtain ⟨rfl, rfl, rfl⟩ := q
    obtain ⟨rfl, -, -⟩ := q'
    refine ⟨by trivial, by trivial, ?_⟩
    have kp2 : ∀ g, Rt A g → Keep A A1 g := fun g Rg => kp g Rg fun h hh => by simp at hh
    refine S.upd hk w2 s2 ⟨P.l, P.sd, P.fd, P.ok, P.n, P.bl, P.lg, fun f => C.keep fun g hg => kp2 g (C.rt g hg)⟩ (fun j hj _ fj g hg => kp2 g (((S.pr j hj (by have := S.len; omega)).ct fj).rt g hg)) (fun x y => ?_) (fun j hj hne _ fj hsd g hg h hh => ?_)
    · have hcs := cnt2_set hk K x y
      rw [hK] at hcs
      have h0 := S.ct x y
      have h1 := hl_nn w2 x y
      by_cases hz : hl A x y = 0
      · omega
      · rw [LH x y hz]; omega
    · exact S.un k j hk hj (by omega) (by rw [hK]; exact hf') (by rw [hK]; exact hs') fj g hg h (by rw [hK]; exact hh)
/-- Share -/
theorem St.share {A : List (List ABlk)} {Ks : List Ch} {Rs : List RCh} (S : St A Ks Rs) {k : Nat} (hk : k < Ks.length) (hk' : k < Rs.length) (h9 : Ks.length ≤ 1000) (hf : Ks[k].freed = false) :
    St (holdsA A Ks[k].l) (Ks.set k { Ks[k] with shared := true } ++ [{ Ks[k] with shared := true }]) (Rs.set k { Rs[k] with shared := true } ++ [{ Rs[k] with shared := true }]) := by
  have P := S.pr k hk hk'
  obtain ⟨K, hK⟩ : ∃ q, Ks[k] = q := ⟨_, rfl⟩
  obtain ⟨R, hR⟩ : ∃ q, Rs[k] = q := ⟨_, rfl⟩
  rw [hK, hR] at P
  rw [hK] at hf
  rw [hK, hR]
  have C := P.ct hf
  obtain ⟨w2, h2, k2, s2⟩ := holds_many K.l A S.wf C.rt
  have C2 : Cont (holdsA A K.l) { K with shared := true } R.bytes := by
    have := C.keep fun g hg => k2 g (C.rt g hg)
    exact ⟨this.rt, this.pw, this.lg, this.cg, this.ct, this.last⟩
  have P2 : Pair (holdsA A K.l) { K with shared := true } { R with shared := true } :=
    ⟨P.l, rfl, P.fd, ⟨P.ok.l0, P.ok.l1, P.ok.c0, P.ok.c1, P.ok.n, P.ok.nil, P.ok.cls⟩, P.n, P.bl, P.lg, fun _ => C2⟩
  have oe : ∀ x y, onC x y ({ K with shared := true } : Ch) = onC x y K := fun x y => rfl
  have cs : ∀ x y, cnt2 (Ks.set k { K with shared := true }) x y = cnt2 Ks x y := fun x y => by
    have := cnt2_set hk { K with shared := true } x y
    rw [hK, oe] at this
    omega
  have un2 : ∀ j (hj : j < Ks.length), j ≠ k → Ks[j].freed = false → Ks[j].shared = false → ∀ g ∈ Ks[j].l, ∀ h ∈ K.l, other g h := fun j hj hne fj sj g hg h hh =>
    other_symm (S.un j k hj hk hne fj sj (by rw [hK]; exact hf) h (by rw [hK]; exact hh) g hg)
  have S2 : St (holdsA A K.l) (Ks.set k { K with shared := true }) (Rs.set k { R with shared := true }) := by
    refine S.upd hk w2 s2 P2 (fun j hj _ fj g hg => k2 g (((S.pr j hj (by have := S.len; omega)).ct fj).rt g hg)) (fun x y => ?_) (fun j hj hne _ fj hsd g hg h hh => ?_)
    · rw [cs]
      have := S.ct x y
      have := (h2 x y).1
      omega
    · rcases hsd with q | q
      · exact absurd q (by simp)
      · exact un2 j hj hne fj q g hg h hh
  refine S2.more P2 (fun x y => ?_) (fun j hj _ fj hsd g hg h hh => ?_)
  · rw [cs, oe]
    have h0 := S.ct x y
    have hle : cnt2 Ks x y ≤ Ks.length := List.countP_le_length
    obtain ⟨q1, q2⟩ := h2 x y
    by_cases e : onC x y K = true
    · rw [if_pos e]
      rw [onC_live hf] at e
      have := q2 e
      omega
    · rw [if_neg e]
      omega
  · have hj' : j < Ks.length := by simpa using hj
    rcases hsd with q | q
    · exact absurd q (by simp)
    · rw [List.getElem_set] at q fj hg
      by_cases e : k = j
      · rw [if_pos e] at q; exact absurd q (by simp)
      · rw [if_neg e] at q fj hg
        exact un2 j hj' (by omega) fj q g hg h hh
/-- Free -/
theorem St.free {A : List (List ABlk)} {Ks : List Ch} {Rs : List RCh} (S : St A Ks Rs) {k : Nat} (hk : k < Ks.length) (hk' : k < Rs.length) :
    St (freeC A Ks[k]) (Ks.set k { Ks[k] with freed := true }) (Rs.set k { Rs[k] with freed := true }) := by
  have P := S.pr k hk hk'
  obtain ⟨K, hK⟩ : ∃ q, Ks[k] = q := ⟨_, rfl⟩
  obtain ⟨R, hR⟩ : ∃ q, Rs[k] = q := ⟨_, rfl⟩
  rw [hK, hR] at P ⊢
  unfold freeC
  by_cases hf : K.freed = true
  · rw [if_pos hf]
    have e1 : ({ K with freed := true } : Ch) = K := by rw [← hf]
    have e2 : ({ R with freed := true } : RCh) = R := by rw [← hf, P.fd]
    rw [e1, e2, ← hK, ← hR, List.set_getElem_self, List.set_getElem_self]
    exact S
  · rw [if_neg hf]
    have hf' : K.freed = false := by simpa using hf
    have C := P.ct hf'
    obtain ⟨w2, h2, k2, s2⟩ := drops_many K.l A S.wf C.rt C.pw
    have cs : ∀ x y, cnt2 (Ks.set k { K with freed := true }) x y + (if onB K.l x y = true then 1 else 0) = cnt2 Ks x y := fun x y => by
      have := cnt2_set hk { K with freed := true } x y
      rw [hK, onC_live hf', onC_none (.inl rfl)] at this
      simpa using this
    refine S.upd hk w2 s2 ⟨P.l, P.sd, rfl, ⟨P.ok.l0, P.ok.l1, P.ok.c0, P.ok.c1, P.ok.n, P.ok.nil, P.ok.cls⟩, P.n, P.bl, P.lg, fun f => absurd f (by simp)⟩ (fun j hj hne fj g hg => ?_) (fun x y => ?_) (fun j hj hne f => absurd f (by simp))
    · refine k2 g (((S.pr j hj (by have := S.len; omega)).ct fj).rt g hg) fun h hh => ?_
      by_cases e : g.1 = h.1 ∧ g.2.1 = h.2.1
      · refine .inr ?_
        have h0 := S.ct h.1 h.2.1
        have h1 := cs h.1 h.2.1
        rw [if_pos (onB_iff.2 ⟨h, hh, rfl, rfl⟩)] at h1
        have h3 : 0 < cnt2 (Ks.set k { K with freed := true }) h.1 h.2.1 := by
          unfold cnt2
          have hjs : j < (Ks.set k { K with freed := true }).length := by simpa using hj
          refine List.countP_pos_iff.2 ⟨_, List.getElem_mem hjs, ?_⟩
          rw [List.getElem_set, if_neg (by omega), onC_live fj]
          exact onB_iff.2 ⟨g, hg, e.1, e.2⟩
        omega
      · exact .inl e
    · have h0 := S.ct x y
      have h1 := cs x y
      rw [h2]
      show ((cnt2 (Ks.set k { K with freed := true }) x y : Nat) : Int) ≤ _
      by_cases e : onB K.l x y = true
      · rw [if_pos e] at h1 ⊢; omega
      · rw [if_neg e] at h1 ⊢; omega
/-- Read -/
theorem St.read {A : List (List ABlk)} {Ks : List Ch} {Rs : List RCh} (S : St A Ks Rs) {k : Nat} (hk : k < Ks.length) (hk' : k < Rs.length) (at_ n : Int) : readC A Ks[k] at_ n = rreadC Rs[k] at_ n := by
  have P := S.pr k hk hk'
  obtain ⟨K, hK⟩ : ∃ q, Ks[k] = q := ⟨_, rfl⟩
  obtain ⟨R, hR⟩ : ∃ q, Rs[k] = q := ⟨_, rfl⟩
  rw [hK, hR] at P ⊢
  unfold readC rreadC
  rw [← P.fd, ← P.lg]
  by_cases hf : K.freed = true
  · rw [if_pos hf, if_pos hf]
  rw [if_neg hf, if_neg hf]
  have C := P.ct (by simpa using hf)
  by_cases hr : at_ < 0 ∨ n < 0 ∨ K.long < at_ ∨ K.long - at_ < n
  · rw [if_pos hr, if_pos hr]
  rw [if_neg hr, if_neg hr]
  have hlg := C.lg
  have hle : R.bytes.length ≤ (cat A K.l).length := by
    have := congrArg List.length C.ct
    rw [List.length_take] at this
    omega
  have h1 := rd_all S.wf K.l C.rt at_.toNat n.toNat (by omega)
  rw [h1]
  congr 1
  have h2 := C.ct
  calc ((cat A K.l).drop at_.toNat).take n.toNat = (((cat A K.l).take R.bytes.length).drop at_.toNat).take n.toNat := by
        rw [List.drop_take, List.take_take, Nat.min_eq_left (by omega)]
    _ = _ := by rw [h2]
/-- Alike -/
theorem St.alike {A : List (List ABlk)} {Ks : List Ch} {Rs : List RCh} (S : St A Ks Rs) {i j : Nat} (hi : i < Ks.length) (hi' : i < Rs.length) (hj : j < Ks.length) (hj' : j < Rs.length) : alikeC Ks[i] Ks[j] = ralikeC Rs[i] Rs[j] := by
  have P := S.pr i hi hi'
  have Q := S.pr j hj hj'
  unfold alikeC ralikeC
  rw [← P.fd, ← Q.fd, ← P.l, ← Q.l, P.lg, Q.lg]
  congr 2
  congr 1
  congr 1
  by_cases e : Rs[i].bytes.length = Rs[j].bytes.length
  · rw [e]; simp
  · have h1 : ((Rs[i].bytes.length : Nat) : Int) ≠ (Rs[j].bytes.length : Nat) := by omega
    rw [beq_eq_false_iff_ne.2 e, beq_eq_false_iff_ne.2 h1]
/-- Charge -/
theorem St.charge {A : List (List ABlk)} {Ks : List Ch} {Rs : List RCh} (S : St A Ks Rs) {k : Nat} (hk : k < Ks.length) (hk' : k < Rs.length) (hf : Ks[k].freed = false) : Ks[k].charge = sizes Rs[k].l := by
  have P := S.pr k hk hk'
  rw [(P.ct hf).cg, P.l]
#print axioms St.append
#print axioms St.share
#print axioms St.free
#print axioms St.read
#print axioms St.alike
end Go.Proofs.Ytefcinifaaablaa.Chain

/-
  ChainPlays: its acts.
-/
namespace Go.Proofs.Ytefcinifaaablaa.Chain
open Go.RowKit Go.Sep Go.ChangeShapes Go.WideShapes Go.Deep
set_option linter.unusedSimpArgs false
set_option linter.unusedVariables false
set_option maxRecDepth 100000

def QAct5 (w : World) (cs : List Value) : Prop := ∃ kd kk nn at_ cb : Int, cs = [.int .i64 kd, .int .i64 kk, .int .i64 nn, .int .i64 at_, .int .u8 cb]
theorem arr4b {H : Type} {enc : TypeId × Value → H} {P : Program} {w : World} {base b2 : Nat} {spare : Nat → Bool} {held : Bool} {t e : TypeId} {fuel : Nat} {v : Value} {x : DataW H × List MemPlace} (ht : P.underlying t = some (.array 4 e)) (he : P.underlying e = some (.int .i64)) (hc : P.cellsOf e = 1) (hct : P.cellsOf t = 4)
    (hok : Value.okWide P w .any b2 t v) (h : DataW.trod enc P w base spare held fuel t v.cells.toList = some x) : ∃ x0 x1 x2 x3 : Int, v = .agg #[.int .i64 x0, .int .i64 x1, .int .i64 x2, .int .i64 x3] := by
  have hv : ∃ cs, v = .agg cs := by
    simp only [Value.okWide, ht] at hok
    obtain ⟨cs, h1, -⟩ := hok
    exact ⟨cs, h1⟩
  obtain ⟨cs, rfl⟩ := hv
  obtain ⟨xs, m, -, -, hl, hxl, hf⟩ := DataW.trod_array ht h
  have one : ∀ i, i < 4 → ∃ z, (Value.agg cs).cells.toList[i]? = some (.int .i64 z) := by
    intro i hi
    have h1 := hf i hi
    rw [hc, Nat.mul_one] at h1
    rw [← hc] at h1
    obtain ⟨z, hz, -⟩ := fld_int he hc h1 (by rw [List.getElem?_eq_getElem (by omega)]; rfl)
    exact ⟨z, hz⟩
  obtain ⟨x0, e0⟩ := one 0 (by omega)
  obtain ⟨x1, e1⟩ := one 1 (by omega)
  obtain ⟨x2, e2⟩ := one 2 (by omega)
  obtain ⟨x3, e3⟩ := one 3 (by omega)
  have hcs : (Value.agg cs).cells.toList = cs.toList := rfl
  rw [hct, hcs] at hl
  rw [hcs] at e0 e1 e2 e3
  refine ⟨x0, x1, x2, x3, ?_⟩
  congr 1
  apply Array.ext'
  match h : cs.toList, hl with
  | [a, b, c, d], _ =>
    rw [h] at e0 e1 e2 e3
    simp at e0 e1 e2 e3
    subst e0 e1 e2 e3
    rfl
section
variable {H : Type} {enc : TypeId × Value → H} {w : World} {base : Nat} {spare : Nat → Bool} {held : Bool}
theorem qact5 {n : Nat} {cs : List Value} {x : DataW H × List MemPlace} (h : DataW.trod enc Try.prog w base spare held n 49 cs = some x) (hl : cs.length = 5) : QAct5 w cs := by
  obtain ⟨xs, m, -, -, -, hxl, hf⟩ := DataW.trod_struct Try.underlying49 h
  have sm : ∀ i, i < 5 → xs[i]?.isSome = true := fun i hi => by rw [List.getElem?_eq_getElem (by rw [hxl]; exact hi)]; rfl
  have ci : Try.prog.cellsOf 3 = 1 := by kernel_rfl
  have cb : Try.prog.cellsOf 5 = 1 := by kernel_rfl
  obtain ⟨kd, e0, -⟩ := fld_int Try.underlying3 ci (hf 0 _ rfl) (sm 0 (by omega))
  obtain ⟨kk, e1, -⟩ := fld_int Try.underlying3 ci (hf 1 _ rfl) (sm 1 (by omega))
  obtain ⟨nn, e2, -⟩ := fld_int Try.underlying3 ci (hf 2 _ rfl) (sm 2 (by omega))
  obtain ⟨aa, e3, -⟩ := fld_int Try.underlying3 ci (hf 3 _ rfl) (sm 3 (by omega))
  obtain ⟨cc, e4, -⟩ := fld_int Try.underlying5 cb (hf 4 _ rfl) (sm 4 (by omega))
  match cs, hl with
  | [c0, c1, c2, c3, c4], _ =>
    simp at e0 e1 e2 e3 e4
    subst e0 e1 e2 e3 e4
    exact ⟨kd, kk, nn, aa, cc, rfl⟩
end
#print axioms qact5
end Go.Proofs.Ytefcinifaaablaa.Chain

/-
  ChainPlays: the chains beside the document's, as entries; acts; rows of pointers.
-/
namespace Go.Proofs.Ytefcinifaaablaa.Chain
open Go.RowKit Go.Sep
open Go.Proofs.Ytefcinifaaablaa.Slab (szOf szN szN_val clsFor Ar ABlk allocA dropA dropB holdA writeA readA liveA freeA setA blkA rightA zeros Took u8s Src newA X4)
open Go.Proofs.Ytefcinifaaablaa.Ref15 (WfA WfB ar_wf refA rel_new lens_new)
set_option maxRecDepth 100000
set_option linter.unusedVariables false
set_option linter.unusedSimpArgs false

structure Ent where
  c : Nat
  K : Ch
  r : Nat
  R : RCh
def ent (xa ya : Nat) (q : Ent) : Asr := chA q.c xa q.K * rcA q.r ya q.R
def pc (q : Ent) : List Value := [.pointer (some ⟨q.c, 0, none⟩)]
def pr (q : Ent) : List Value := [.pointer (some ⟨q.r, 0, none⟩)]
theorem pc_len (q : Ent) : (pc q).length = 1 := rfl
theorem pr_len (q : Ent) : (pr q).length = 1 := rfl
def plC (X : Nat → Int) (xa ya : Nat) (A : List (List ABlk)) (Q : List Ent) (va vb : Value) (w : World) : Asr :=
  Ar xa A * (RAr X ya A * (big (ent xa ya) Q * (rowL 27 1 pc va Q * (rowL 43 1 pr vb Q * all w))))
structure Iv (A : List (List ABlk)) (Q : List Ent) (k : Nat) : Prop where
  st : St A (Q.map Ent.K) (Q.map Ent.R)
  pos : 0 < Q.length
  n : Q.length ≤ k + 1
theorem Iv.le {A : List (List ABlk)} {Q : List Ent} {k : Nat} (I : Iv A Q k) : Iv A Q (k + 1) := ⟨I.st, I.pos, by have := I.n; omega⟩
theorem Iv.at_ {A : List (List ABlk)} {Q : List Ent} {k : Nat} (I : Iv A Q k) (j : Nat) (hj : j < Q.length) : Pair A Q[j].K Q[j].R := by
  have := I.st.pr j (by simpa using hj) (by simpa using hj)
  simpa using this
theorem Iv.new {A : List (List ABlk)} {Q : List Ent} {k : Nat} (I : Iv A Q k) (c r : Nat) : Iv A (Q ++ [⟨c, ch0, r, rch0⟩]) (k + 1) :=
  ⟨by have := I.st.new; simpa using this, by simp, by have := I.n; simp; omega⟩
theorem Iv.append {A : List (List ABlk)} {Q : List Ent} {k : Nat} (I : Iv A Q k) {j : Nat} (hj : j < Q.length) {q : Ent} (hq : Q[j] = q) (bs : List Int) (hb8 : ∀ v ∈ bs, 0 ≤ v ∧ v < 256) :
    (rappA A q.R bs).e = (appA A q.K bs).e ∧ er (rappA A q.R bs).A = er (appA A q.K bs).A ∧ Iv (appA A q.K bs).A (Q.set j ⟨q.c, (appA A q.K bs).K, q.r, (rappA A q.R bs).R⟩) (k + 1) := by
  obtain ⟨h1, h2, h3⟩ := I.st.append (k := j) (by simpa using hj) (by simpa using hj) bs hb8
  simp only [List.getElem_map, hq] at h1 h2 h3
  refine ⟨h1.symm, h2, ⟨?_, by have := I.pos; simpa using this, by have := I.n; simp; omega⟩⟩
  rw [List.map_set, List.map_set]
  exact h3
theorem Iv.share {A : List (List ABlk)} {Q : List Ent} {k : Nat} (I : Iv A Q k) (hk : k ≤ 100) {j : Nat} (hj : j < Q.length) {q : Ent} (hq : Q[j] = q) (hf : q.K.freed = false) (o o2 : Nat) :
    Iv (holdsA A q.K.l) (Q.set j ⟨q.c, { q.K with shared := true }, q.r, { q.R with shared := true }⟩ ++ [⟨o, { q.K with shared := true }, o2, { q.R with shared := true }⟩]) (k + 1) := by
  have h := I.st.share (k := j) (by simpa using hj) (by simpa using hj) (by have := I.n; simp; omega) (by simpa [hq] using hf)
  simp only [List.getElem_map, hq] at h
  refine ⟨?_, by simp, by have := I.n; simp; omega⟩
  rw [List.map_append, List.map_append, List.map_set, List.map_set]
  exact h
theorem Iv.free {A : List (List ABlk)} {Q : List Ent} {k : Nat} (I : Iv A Q k) {j : Nat} (hj : j < Q.length) {q : Ent} (hq : Q[j] = q) :
    Iv (freeC A q.K) (Q.set j ⟨q.c, { q.K with freed := true }, q.r, { q.R with freed := true }⟩) (k + 1) := by
  have h := I.st.free (k := j) (by simpa using hj) (by simpa using hj)
  simp only [List.getElem_map, hq] at h
  refine ⟨?_, by have := I.pos; simpa using this, by have := I.n; simp; omega⟩
  rw [List.map_set, List.map_set]
  exact h
theorem Iv.read {A : List (List ABlk)} {Q : List Ent} {k : Nat} (I : Iv A Q k) {j : Nat} (hj : j < Q.length) {q : Ent} (hq : Q[j] = q) (at_ n : Int) : rreadC q.R at_ n = readC A q.K at_ n := by
  have h := I.st.read (k := j) (by simpa using hj) (by simpa using hj) at_ n
  simp only [List.getElem_map, hq] at h
  exact h.symm
theorem Iv.charge {A : List (List ABlk)} {Q : List Ent} {k : Nat} (I : Iv A Q k) {j : Nat} (hj : j < Q.length) {q : Ent} (hq : Q[j] = q) (hf : q.K.freed = false) : q.K.charge = sizes q.R.l := by
  have h := I.st.charge (k := j) (by simpa using hj) (by simpa using hj) (by simpa [hq] using hf)
  simpa [hq] using h
theorem Iv.alike {A : List (List ABlk)} {Q : List Ent} {k : Nat} (I : Iv A Q k) {i j : Nat} (hi : i < Q.length) (hj : j < Q.length) {p q : Ent} (hp : Q[i] = p) (hq : Q[j] = q) : ralikeC p.R q.R = alikeC p.K q.K := by
  have h := I.st.alike (i := i) (j := j) (by simpa using hi) (by simpa using hi) (by simpa using hj) (by simpa using hj)
  simp only [List.getElem_map, hp, hq] at h
  exact h.symm
theorem Iv.init {A : List (List ABlk)} (W : WfA A) (Z : ∀ d, d < 4 → sh A d ≤ 300) (c r : Nat) : Iv A [⟨c, ch0, r, rch0⟩] 0 :=
  ⟨by have := (St.nil W Z).new; simpa using this, by simp, by simp⟩

/-! ### memory -/
theorem rc_new (y : Nat) {w : World} {F : Asr} (h : Holds w F) : Holds (w.alloc (.cells #[.pointer (some ⟨y, 0, none⟩), .slice none 0 0, .slice none 0 0, .bool false, .bool false] 46)) (rcA w.heap.size y rch0 * F) := by
  have h := h.alloc (.cells #[.pointer (some ⟨y, 0, none⟩), .slice none 0 0, .slice none 0 0, .bool false, .bool false] 46)
  have h := rowA_nil (T := 5) (sz := 1) h
  have h := rowL_nil (T := 117) (sz := 3) (enc := hEnc) h
  exact rc_shut (v := .slice none 0 0) (vb := .slice none 0 0) (h.eqv (by unfold rcH rls rbs rch0 u8s; ac_rfl))
theorem row_new {T : TypeId} {w : World} {F : Asr} {g : Nat} {x : Value} (h : Holds w (pts g (.cells #[x] T (0, 0)) * F)) {α : Type _} (enc : α → List Value) (q : α) (hx : enc q = [x]) : Holds w (rowL T 1 enc (.slice (some ⟨g, 0, none⟩) 1 1) [q] * F) := by
  have := rowA_mk' (sz := 1) (n := 1) (cap := 1) (xs := [x]) h (Nat.le_refl _) (by unfold maxLen; omega) rfl rfl
  unfold rowL
  simpa [hx] using this
theorem rar_new {w : World} {X : Nat → Int} {y : Nat} {F : Asr} (hX : ∀ c, c < 4 → 0 ≤ X c ∧ X c ≤ 4096) (h : Holds w (refA y X [] * F)) : Holds w (RAr X y (newA X) * F) :=
  rar_shut ⟨by rw [er_new]; exact rel_new X hX, by rw [er_new]; exact lens_new X, hX⟩ h
theorem sh_new {X : Nat → Int} {d : Nat} (hd : d < 4) : sh (newA X) d = (X d).toNat := by
  have hl : d < (newA X).length := by simp [newA]; omega
  rw [sh_at hl]
  exact lens_new X d hl
theorem src_pts {w : World} {g n : Nat} {bs : List Int} {T : TypeId} {F : Asr} (hn : bs.length = n) (h : Holds w (pts g (.cells (u8s bs).toArray T (0, 0)) * F)) : Src w (some ⟨g, 0, none⟩) n bs := by
  refine ⟨hn, fun _ => ⟨g, 0, rfl, h.lt, fun j hj => ?_⟩⟩
  have := h.cell j
  rw [Nat.zero_add, this]
  simp [u8s, List.getD, hn, hj]
theorem bytes_pts {g n : Nat} {bs : List Int} {T : TypeId} {F : Asr} (hn : bs.length = n) (h9 : n ≤ 1048576) (h8 : ∀ x ∈ bs, 0 ≤ x ∧ x < 256) : Bytes (pts g (.cells (u8s bs).toArray T (0, 0)) * F) (some ⟨g, 0, none⟩) n n bs :=
  ⟨fun w G h => src_pts hn (h.eqv (by ac_rfl : _ = pts g (.cells (u8s bs).toArray T (0, 0)) * (G * F))), hn, Nat.le_refl _, by omega, h8⟩
theorem src_conv {w : World} {so : Option Addr} {sn sc : Nat} {bs : List Int} (h : Src w so sn bs) : (convert 30 9 (.slice so sn sc)).run Try.prog w = .ok (.string (strOfNums bs)) w := by
  cases so with
  | none =>
    have hb : bs = [] := by
      have := h.len
      rcases Nat.eq_zero_or_pos sn with h0 | h0
      · exact List.eq_nil_of_length_eq_zero (by omega)
      · obtain ⟨b, o, h1, _⟩ := h.cell h0; simp at h1
    subst hb
    rw [run_convert_bytes_nil w 30 5 Try.underlying30 Try.underlying5 sn sc 9 Try.underlying9]
    rfl
  | some x =>
    have hl : (loadCells x sn).run Try.prog w = .ok (u8s bs).toArray w := by
      have := run_loadCells_list (P := Try.prog) w x (u8s bs) h.load
      have e : (u8s bs).length = sn := by simp [u8s, h.len]
      rwa [e] at this
    rw [run_convert_bytes_string w 30 9 5 _ sn sc Try.underlying30 Try.underlying5 Try.underlying9, run_bytesToString w _ sn sc bs hl, foldl_push_bytes]
    simp [strOfNums, ByteArray.empty, ByteArray.emptyWithCapacity]
    rfl
theorem cells_newg (w : World) (cs : Array Value) (T : TypeId) (l : List Value) (h : cs.toList = l) (g : Nat) (hg : w.heap.size = g) : ∀ j u, l[j]? = some u → (w.alloc (.cells cs T)).cell? ((⟨g, 0, none⟩ : Addr).add j) = some u := by
  subst hg; exact cells_new w cs T l h
theorem infoPC : (Try.prog.info? 27).map (fun i => (i.zero, i.size, i.bytes)) = some (some (.pointer none), 1, 8) := by kernel_rfl
theorem infoPR : (Try.prog.info? 43).map (fun i => (i.zero, i.size, i.bytes)) = some (some (.pointer none), 1, 8) := by kernel_rfl
/-- one of the entries, and the others -/
theorem big_out {xa ya : Nat} {Q : List Ent} {j : Nat} (hj : j < Q.length) {q : Ent} (hq : Q[j] = q) : big (ent xa ya) Q = chA q.c xa q.K * (rcA q.r ya q.R * big (ent xa ya) (Q.eraseIdx j)) := by
  rw [big_at _ Q j hj, hq]
  unfold ent
  ac_rfl
theorem big_in {xa ya : Nat} {Q : List Ent} {j : Nat} (hj : j < Q.length) (q : Ent) : big (ent xa ya) (Q.set j q) = chA q.c xa q.K * (rcA q.r ya q.R * big (ent xa ya) (Q.eraseIdx j)) := by
  rw [big_set _ Q j q hj]
  unfold ent
  ac_rfl
theorem map_set_same {α β : Type _} (f : α → β) (Q : List α) (j : Nat) (hj : j < Q.length) (q : α) (h : f q = f Q[j]) : (Q.set j q).map f = Q.map f := by
  rw [List.map_set, h]
  apply List.ext_getElem
  · simp
  · intro i h1 h2
    rw [List.getElem_set]
    split
    · rename_i e; subst e; simp
    · rfl
/-- the rows of pointers know nothing of what a chain has -/
theorem rowL_flat {α β : Type _} {T : TypeId} {sz : Nat} {enc : α → List Value} {enc2 : β → List Value} {v : Value} {l : List α} {k : List β} (h : l.map enc = k.map enc2) : rowL T sz enc v l = rowL T sz enc2 v k := by
  unfold rowL
  have e1 : l.length = k.length := by have := congrArg List.length h; simpa using this
  rw [e1, List.flatMap_def, List.flatMap_def, h]
theorem row_set {T : TypeId} {v : Value} {Q : List Ent} {j : Nat} (hj : j < Q.length) {q q2 : Ent} (hq : Q[j] = q) (hc : q2.c = q.c) : rowL T 1 pc v (Q.set j q2) = rowL T 1 pc v Q :=
  rowL_flat (map_set_same pc Q j hj q2 (by rw [hq]; unfold pc; rw [hc]))
theorem row_setR {T : TypeId} {v : Value} {Q : List Ent} {j : Nat} (hj : j < Q.length) {q q2 : Ent} (hq : Q[j] = q) (hc : q2.r = q.r) : rowL T 1 pr v (Q.set j q2) = rowL T 1 pr v Q :=
  rowL_flat (map_set_same pr Q j hj q2 (by rw [hq]; unfold pr; rw [hc]))
#print axioms Iv.share
#print axioms src_conv
#print axioms big_in
end Go.Proofs.Ytefcinifaaablaa.Chain
