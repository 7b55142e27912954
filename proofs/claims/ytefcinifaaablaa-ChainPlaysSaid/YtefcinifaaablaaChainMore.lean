/-
  Layer 16, as plain data: what Append puts behind is there, and nothing else turns.
-/
import Derived.Test.YtefcinifaaablaaChainCat
namespace Go.Proofs.Ytefcinifaaablaa.Chain
open Go.RowKit Go.Sep
open Go.Proofs.Ytefcinifaaablaa.Slab (szOf szN szN_val clsFor ABlk allocA dropA dropB holdA writeA readA liveA freeA setA blkA rightA zeros Took)
open Go.Proofs.Ytefcinifaaablaa.Ref15 (WfA WfB ar_wf setA_len setA_row setA_get blkA_in blkA_cases)
set_option maxRecDepth 100000
set_option linter.unusedVariables false
set_option linter.unusedSimpArgs false

/-- a right handle stays right, and its block holds the same -/
def Keep (A A' : List (List ABlk)) (g : Hd) : Prop := Rt A' g ∧ blkB A' g = blkB A g
theorem rt_set {A : List (List ABlk)} {c i : Nat} {b : ABlk} {g : Hd} (h : Rt A g) (hn : ¬ (g.1 = c ∧ g.2.1 = i)) : Keep A (setA A c i b) g := by
  obtain ⟨c2, i2, h1, h2, e1, e2, e3, e4⟩ := h
  have g1 : c2 < (setA A c i b).length := by rw [setA_len]; exact h1
  have g2 : i2 < ((setA A c i b)[c2]'g1).length := by rw [setA_row g1 h1]; exact h2
  have ge : (setA A c i b)[c2][i2] = A[c2][i2] := by rw [setA_get g1 g2 h1 h2, if_neg (by rw [e1, e2] at hn; omega)]
  refine ⟨⟨c2, i2, g1, g2, e1, e2, by rw [ge]; exact e3, by rw [ge]; exact e4⟩, ?_⟩
  unfold blkB
  rw [e1, e2, blkA_in _ c2 i2 g1 g2, blkA_in _ c2 i2 h1 h2, ge]
theorem rt_same {A : List (List ABlk)} {c i : Nat} (hc : c < A.length) (hi : i < A[c].length) {b : ABlk} {g : Hd} (h : Rt A g) (he : g.1 = c ∧ g.2.1 = i) (hh : b.held ≠ 0) (hg : b.gen = A[c][i].gen) : Rt (setA A c i b) g ∧ blkB (setA A c i b) g = b.bytes ∧ blkB A g = A[c][i].bytes := by
  obtain ⟨c2, i2, h1, h2, e1, e2, e3, e4⟩ := h
  obtain rfl : c2 = c := by omega
  obtain rfl : i2 = i := by omega
  have g1 : c2 < (setA A c2 i2 b).length := by rw [setA_len]; exact h1
  have g2 : i2 < ((setA A c2 i2 b)[c2]'g1).length := by rw [setA_row g1 h1]; exact h2
  have ge : (setA A c2 i2 b)[c2][i2] = b := by rw [setA_get g1 g2 h1 h2, if_pos ⟨rfl, rfl⟩]
  refine ⟨⟨c2, i2, g1, g2, e1, e2, by rw [ge]; exact hh, by rw [ge, hg]; exact e4⟩, ?_, ?_⟩
  · unfold blkB; rw [e1, e2, blkA_in _ c2 i2 g1 g2, ge]; rfl
  · unfold blkB; rw [e1, e2, blkA_in _ c2 i2 h1 h2]; rfl
theorem alloc_keep {A A' : List (List ABlk)} (W : WfA A) {j : Nat} (hj : j < 4) {h : Hd} (e : allocA A (szOf j) = ⟨A', h, 0⟩) (g : Hd) (R : Rt A g) : Keep A A' g ∧ other g h := by
  have hl : j < A.length := by rw [W.len]; exact hj
  by_cases hf : freeA A[j] < A[j].length
  · obtain ⟨i, hi, h0, e2⟩ := alloc_free hl hj hf
    rw [e2] at e
    simp only [Took.mk.injEq, and_true] at e
    obtain ⟨rfl, rfl⟩ := e
    have hne : ¬ (g.1 = j ∧ g.2.1 = i) := by
      rintro ⟨q1, q2⟩
      obtain ⟨c2, i2, h1, h2, e1, e2, e3, e4⟩ := R
      obtain rfl : j = c2 := by omega
      obtain rfl : i = i2 := by omega
      exact e3 h0
    exact ⟨rt_set R hne, hne⟩
  · rw [alloc_full hl hj hf] at e
    simp at e
theorem Keep.trans {A B C : List (List ABlk)} {g : Hd} (h : Keep A B g) (k : Keep B C g) : Keep A C g := ⟨k.1, k.2.trans h.2⟩
theorem Keep.refl {A : List (List ABlk)} {g : Hd} (R : Rt A g) : Keep A A g := ⟨R, rfl⟩
theorem take_keep {A : List (List ABlk)} (W : WfA A) : ∀ (j : Nat), j ≤ 4 → ∀ {A' : List (List ABlk)} {h : Hd}, takeN j A = ⟨A', h, 0⟩ → ∀ g, Rt A g → Keep A A' g ∧ other g h
  | 0, _, A', h, e, g, R => by simp [takeN] at e
  | j + 1, hj, A', h, e, g, R => by
    unfold takeN at e
    rcases alloc_two W (show j < 4 by omega) with ⟨A2, h2, e2, e3, N⟩ | ⟨e2, e3⟩
    · rw [e2, if_pos rfl] at e
      simp only [Took.mk.injEq, and_true] at e
      obtain ⟨rfl, rfl⟩ := e
      exact alloc_keep W (by omega) e2 g R
    · rw [e2, if_neg (by simp)] at e
      exact take_keep W j (by omega) e g R
theorem drop_keep {A : List (List ABlk)} {h : Hd} (T : Tk A h) (g : Hd) (R : Rt A g) (ho : other g h) : Keep A (dropH A h) g := by
  obtain ⟨c, i, hc, hi, e1, e2, e3, e4⟩ := T
  obtain ⟨h0, h1, h2⟩ := h
  simp only at e1 e2 e4
  subst e1
  subst e2
  have hr : rightA A c i h2 = true := by
    unfold rightA
    rw [blkA_in A c i hc hi]
    simp [e3, e4]
  have ed : dropH A ((c : Int), (i : Int), h2) = setA A c i (dropB A[c][i]) := by
    show (dropA A c i h2).A = _
    unfold dropA
    rw [if_pos hr, blkA_in A c i hc hi]
    rfl
  rw [ed]
  exact rt_set R ho
theorem drops_keep : ∀ (l : List Hd) (A : List (List ABlk)), WfA A → Own A l → ∀ g, Rt A g → (∀ h ∈ l, other g h) → Keep A (dropsA A l) g
  | [], A, W, O, g, R, ho => Keep.refl R
  | h :: l, A, W, O, g, R, ho => by
    obtain ⟨w1, s1, l1, t1⟩ := drop_tk W (O.tk h (List.mem_cons_self ..))
    have pw := List.pairwise_cons.1 O.pw
    have O2 : Own (dropH A h) l := ⟨fun g hg => t1 g (O.tk g (List.mem_cons_of_mem _ hg)) (fun ⟨q1, q2⟩ => pw.1 g hg ⟨q1.symm, q2.symm⟩), pw.2⟩
    have k1 := drop_keep (O.tk h (List.mem_cons_self ..)) g R (ho h (List.mem_cons_self ..))
    exact k1.trans (drops_keep l (dropH A h) w1 O2 g k1.1 fun x hx => ho x (List.mem_cons_of_mem _ hx))
/-- what room does to what is there, and how much more its last block has than is wanted -/
theorem roomF_keep : ∀ (f : Nat) (A : List (List ABlk)) (n : Int) (l : List Hd), WfA A → Own A l → n ≤ f →
    (∃ A' l', roomF f A n l = ⟨A', l ++ l', 0⟩ ∧ (∀ g, Rt A g → Keep A A' g ∧ ∀ h ∈ l', other g h) ∧ (∀ h, l'.getLast? = some h → sizes l' - n < szOf h.1)) ∨
    (∃ A', roomF f A n l = ⟨A', [], 14⟩ ∧ ∀ g, Rt A g → (∀ h ∈ l, other g h) → Keep A A' g)
  | 0, A, n, l, W, O, hn => .inl ⟨A, [], by simp [roomF], fun g R => ⟨Keep.refl R, fun h hh => by simp at hh⟩, fun h hh => by simp at hh⟩
  | f + 1, A, n, l, W, O, hn => by
    unfold roomF
    by_cases hp : 0 < n
    · rw [if_pos hp]
      have h3 := topC_le n
      rcases takeN_two W (topC n + 1) (by omega) with ⟨A', h, e, ⟨c, c1, c2, -⟩, N⟩ | ⟨e, -⟩
      · have e' : takeA A n = ⟨A', h, 0⟩ := e
        have KT := take_keep W (topC n + 1) (by omega) e
        rw [e', if_pos rfl]
        have hs := szOf_64 c (by omega)
        simp only [c2]
        rcases roomF_keep f A' (n - szOf c) (l ++ [h]) N.wf (O.snoc N) (by omega) with ⟨A2, l2, q1, q2, q3⟩ | ⟨A2, q1, q2⟩
        · refine .inl ⟨A2, h :: l2, by rw [q1]; simp, fun g R => ?_, fun x hx => ?_⟩
          · obtain ⟨k1, k2⟩ := KT g R
            obtain ⟨k3, k4⟩ := q2 g k1.1
            refine ⟨k1.trans k3, fun x hx => ?_⟩
            rcases List.mem_cons.1 hx with rfl | hx
            · exact k2
            · exact k4 x hx
          · have es : sizes (h :: l2) = szOf c + sizes l2 := by simp [sizes, c2]
            rw [es]
            cases l2 with
            | nil =>
              simp at hx
              subst hx
              rw [c2, sizes_nil]
              omega
            | cons y l3 =>
              have hx2 : (y :: l3).getLast? = some x := by simpa using hx
              have := q3 x hx2
              omega
        · refine .inr ⟨A2, q1, fun g R ho => ?_⟩
          obtain ⟨k1, k2⟩ := KT g R
          refine k1.trans (q2 g k1.1 fun x hx => ?_)
          rcases List.mem_append.1 hx with hx | hx
          · exact ho x hx
          · rw [List.mem_singleton.1 hx]; exact k2
      · have e' : takeA A n = ⟨A, (0, 0, 0), 14⟩ := e
        rw [e', if_neg (by simp)]
        exact .inr ⟨dropsA A l, rfl, fun g R ho => drops_keep l A W O g R ho⟩
    · rw [if_neg hp]
      exact .inl ⟨A, [], by simp, fun g R => ⟨Keep.refl R, fun h hh => by simp at hh⟩, fun h hh => by simp at hh⟩
/-- a write inside a block -/
theorem put_in {A : List (List ABlk)} (W : WfA A) {h : Hd} (R : Rt A h) (x : Nat) (x' : Int) (hx : x' = x) (bs : List Int) (hb : x + bs.length ≤ (blkB A h).length) (hb8 : ∀ v ∈ bs, 0 ≤ v ∧ v < 256) :
    WfA (putH A h x' bs) ∧ Rt (putH A h x' bs) h ∧ blkB (putH A h x' bs) h = (blkB A h).take x ++ bs ++ (blkB A h).drop (x + bs.length) ∧ ∀ g, Rt A g → other g h → Keep A (putH A h x' bs) g := by
  subst hx
  obtain ⟨r1, -⟩ := R.get W
  obtain ⟨c, i, hc, hi, e1, e2, e3, e4⟩ := R
  obtain ⟨h0, h1, h2⟩ := h
  simp only at e1 e2 e4 r1
  subst e1
  subst e2
  have wb := W.at_ c i hc hi
  have eb : blkB A ((c : Int), (i : Int), h2) = A[c][i].bytes := by unfold blkB; rw [show (((c : Int), (i : Int), h2) : Hd).1 = c from rfl, show (((c : Int), (i : Int), h2) : Hd).2.1 = i from rfl, blkA_in A c i hc hi]; rfl
  rw [eb] at hb ⊢
  have ed : putH A ((c : Int), (i : Int), h2) x bs = setA A c i { A[c][i] with bytes := A[c][i].bytes.take x ++ bs ++ A[c][i].bytes.drop (x + bs.length) } := by
    show (writeA A c i h2 x bs).A = _
    unfold writeA
    rw [if_pos r1, blkA_in A c i hc hi]
    simp only [Option.getD_some]
    rw [if_neg (by omega)]
    simp
  rw [ed]
  have hr : Rt A ((c : Int), (i : Int), h2) := ⟨c, i, hc, hi, rfl, rfl, e3, e4⟩
  obtain ⟨q1, q2, -⟩ := rt_same hc hi (b := { A[c][i] with bytes := A[c][i].bytes.take x ++ bs ++ A[c][i].bytes.drop (x + bs.length) }) hr ⟨rfl, rfl⟩ e3 rfl
  refine ⟨WfA.set W ⟨wb.lo, wb.hi, ?_, fun e => absurd e e3, ?_⟩, q1, q2, fun g Rg ho => rt_set Rg ho⟩
  · have := wb.len
    simp only [List.length_append, List.length_take, List.length_drop]
    omega
  · intro v hv
    simp only [List.mem_append] at hv
    rcases hv with (hv | hv) | hv
    · exact wb.byte v (List.mem_of_mem_take hv)
    · exact hb8 v hv
    · exact wb.byte v (List.mem_of_mem_drop hv)
#print axioms put_in
#print axioms roomF_keep
end Go.Proofs.Ytefcinifaaablaa.Chain
