/-
  Layer 16: the document's arena beside the real one: it has the same blocks, but nothing is written in them.
-/
import Derived.Test.YtefcinifaaablaaChainMore
import Derived.Test.YtefcinifaaablaaRef15f
import Derived.Test.YtefcinifaaablaaSlabSame
namespace Go.Proofs.Ytefcinifaaablaa.Chain
open Go.RowKit Go.Sep
open Go.Proofs.Ytefcinifaaablaa.Slab (szOf szN szN_val clsFor ABlk allocA dropA dropB holdA writeA readA liveA freeA setA blkA rightA zeros Took newA X4)
open Go.Proofs.Ytefcinifaaablaa.Ref15 (WfA WfB ar_wf setA_len setA_row setA_get blkA_in blkA_cases RelS Lens RBlk refA allocL holdL dropL rel_alloc rel_hold rel_drop rel_new lens_new lens_hold lens_drop ralloc_calls hold_calls drop_calls live_calls rel_live)
set_option maxRecDepth 100000
set_option linter.unusedVariables false
set_option linter.unusedSimpArgs false

/-- a block's bytes are as none was written -/
def eb (b : ABlk) : ABlk := { b with bytes := zeros b.bytes.length }
def er (A : List (List ABlk)) : List (List ABlk) := A.map fun l => l.map eb
theorem er_len (A : List (List ABlk)) : (er A).length = A.length := by simp [er]
theorem er_row {A : List (List ABlk)} {c : Nat} (h : c < (er A).length) (h' : c < A.length) : (er A)[c] = A[c].map eb := by simp [er]
theorem zeros_len (n : Nat) : (zeros n).length = n := by simp [zeros]
theorem eb_eb (b : ABlk) : eb (eb b) = eb b := by simp [eb, zeros_len]
theorem er_wf {A : List (List ABlk)} (W : WfA A) : WfA (er A) := by
  refine ⟨by rw [er_len]; exact W.len, fun c i h h2 => ?_⟩
  have h' : c < A.length := by rw [er_len] at h; exact h
  have h2' : i < A[c].length := by rw [er_row h h'] at h2; simpa using h2
  have e : (er A)[c][i] = eb A[c][i] := by simp [er]
  have wb := W.at_ c i h' h2'
  rw [e]
  refine ⟨wb.lo, wb.hi, by simp [eb, zeros_len, wb.len], fun _ => by simp [eb, wb.len], fun x hx => ?_⟩
  simp only [eb, zeros] at hx
  have := (List.mem_replicate.1 hx).2
  omega
theorem er_set (A : List (List ABlk)) (c i : Int) (b : ABlk) : er (setA A c i b) = setA (er A) c i (eb b) := by
  unfold er setA
  apply List.ext_getElem
  · simp
  · intro k h1 h2
    simp only [List.getElem_map, List.getElem_modify]
    split
    · rw [List.map_set]
    · rfl
theorem er_blk (A : List (List ABlk)) (c i : Int) : blkA (er A) c i = (blkA A c i).map eb := by
  unfold blkA
  split
  · unfold er
    rw [List.getElem?_map]
    cases A[c.toNat]? with
    | none => rfl
    | some l => simp
  · rfl
theorem er_right (A : List (List ABlk)) (c i g : Int) : rightA (er A) c i g = rightA A c i g := by
  unfold rightA
  rw [er_blk]
  cases blkA A c i <;> rfl
theorem right_some {A : List (List ABlk)} {c i g : Int} (h : rightA A c i g = true) : ∃ b, blkA A c i = some b := by
  unfold rightA at h
  cases hb : blkA A c i with
  | none => rw [hb] at h; simp at h
  | some b => exact ⟨b, rfl⟩
theorem er_hold (A : List (List ABlk)) (c i g : Int) : (holdA (er A) c i g).A = er (holdA A c i g).A ∧ (holdA (er A) c i g).e = (holdA A c i g).e := by
  unfold holdA
  rw [er_right]
  by_cases h : rightA A c i g = true
  · obtain ⟨b, hb⟩ := right_some h
    rw [if_pos h, if_pos h, er_blk, hb]
    simp only [Option.map_some, Option.getD_some]
    have eh : (eb b).held = b.held := rfl
    rw [eh]
    split
    · exact ⟨by first | rfl | trivial, by first | trivial | rfl⟩
    · exact ⟨by rw [er_set]; rfl, by first | trivial | rfl⟩
  · rw [if_neg h, if_neg h]; exact ⟨rfl, rfl⟩
theorem er_drop (A : List (List ABlk)) (c i g : Int) : (dropA (er A) c i g).A = er (dropA A c i g).A ∧ (dropA (er A) c i g).e = (dropA A c i g).e := by
  unfold dropA
  rw [er_right]
  by_cases h : rightA A c i g = true
  · obtain ⟨b, hb⟩ := right_some h
    rw [if_pos h, if_pos h, er_blk, hb]
    simp only [Option.map_some, Option.getD_some]
    refine ⟨?_, by first | trivial | rfl⟩
    rw [er_set]
    congr 1
    simp only [dropB, eb, zeros_len]
    split <;> simp [zeros_len]
  · rw [if_neg h, if_neg h]; exact ⟨rfl, rfl⟩
theorem set_same {A : List (List ABlk)} {c i : Int} {b : ABlk} (h : blkA A c i = some b) : setA A c i b = A := by
  rcases blkA_cases A c i with ⟨e, -⟩ | ⟨c', i', hc, hi, rfl, rfl⟩
  · rw [e] at h; simp at h
  · rw [blkA_in A c' i' hc hi] at h
    simp only [Option.some.injEq] at h
    subst h
    unfold setA
    apply List.ext_getElem
    · simp
    · intro k h1 h2
      simp only [List.getElem_modify]
      split
      · rename_i e
        simp at e
        subst e
        simp
      · rfl
theorem er_write (A : List (List ABlk)) (c i g x : Int) (bs : List Int) : er (writeA A c i g x bs).A = er A := by
  unfold writeA
  by_cases h : rightA A c i g = true
  · obtain ⟨b, hb⟩ := right_some h
    rw [if_pos h, hb]
    simp only [Option.getD_some]
    split
    · rfl
    · rename_i hn
      show er (setA A c i _) = _
      rw [er_set]
      have e : eb { b with bytes := b.bytes.take x.toNat ++ bs ++ b.bytes.drop (x.toNat + bs.length) } = eb b := by
        simp only [eb]
        congr 2
        simp only [List.length_append, List.length_take, List.length_drop]
        omega
      rw [e]
      exact set_same (by rw [er_blk, hb]; rfl)
  · rw [if_neg h]
theorem er_free (l : List ABlk) : freeA (l.map eb) = freeA l := by
  unfold freeA
  rw [List.findIdx_map]
  rfl
theorem er_alloc (A : List (List ABlk)) (n : Int) : allocA (er A) n = ⟨er (allocA A n).A, (allocA A n).h, (allocA A n).e⟩ := by
  unfold allocA
  split
  · rfl
  · have e1 : (er A).getD (clsFor n).toNat [] = (A.getD (clsFor n).toNat []).map eb := by
      unfold er
      simp only [List.getD_eq_getElem?_getD, List.getElem?_map]
      cases A[(clsFor n).toNat]? <;> rfl
    simp only [e1, er_free, List.length_map]
    split
    · rfl
    · rename_i hf
      have hlt : freeA (A.getD (clsFor n).toNat []) < (A.getD (clsFor n).toNat []).length := by
        have : freeA (A.getD (clsFor n).toNat []) ≤ (A.getD (clsFor n).toNat []).length := List.findIdx_le_length
        omega
      have e2 : ((A.getD (clsFor n).toNat []).map eb).getD (freeA (A.getD (clsFor n).toNat [])) default = eb ((A.getD (clsFor n).toNat []).getD (freeA (A.getD (clsFor n).toNat [])) default) := by
        simp only [List.getD_eq_getElem?_getD (l := (A.getD (clsFor n).toNat []).map eb), List.getElem?_map]
        rw [List.getD_eq_getElem?_getD (l := A.getD (clsFor n).toNat []), List.getElem?_eq_getElem hlt]
        rfl
      rw [e2, er_set]
      rfl
theorem er_live (A : List (List ABlk)) (c : Int) : liveA (er A) c = liveA A c := by
  unfold liveA
  split
  · have e1 : (er A).getD c.toNat [] = (A.getD c.toNat []).map eb := by
      unfold er
      simp only [List.getD_eq_getElem?_getD, List.getElem?_map]
      cases A[c.toNat]? <;> rfl
    rw [e1, List.countP_map]
    rfl
  · rfl
theorem er_new (X : Nat → Int) : er (newA X) = newA X := by
  unfold er newA
  simp only [List.map_map]
  congr 1
  funext c
  simp [eb, zeros_len]

/-! ### how many blocks the document's arena has -/
theorem nodup_lt : ∀ (n : Nat) (l : List Nat), l.Nodup → (∀ x ∈ l, x < n) → l.length ≤ n
  | 0, l, _, h => by
    cases l with
    | nil => simp
    | cons x l => have := h x (by simp); omega
  | n + 1, l, hn, h => by
    by_cases hm : n ∈ l
    · have h1 := nodup_lt n (l.erase n) (hn.erase n) fun x hx => by
        have h2 := h x (List.mem_of_mem_erase hx)
        have h3 : x ≠ n := fun e => (List.Nodup.not_mem_erase hn) (e ▸ hx)
        omega
      rw [List.length_erase_of_mem hm] at h1
      omega
    · have := nodup_lt n l hn fun x hx => by
        have h2 := h x hx
        have h3 : x ≠ n := fun e => hm (e ▸ hx)
        omega
      omega
theorem relS_len {A : List (List ABlk)} {L : List RBlk} (h : RelS A L) {X : Nat → Int} (hX : Lens X A) (h9 : ∀ c, c < 4 → 0 ≤ X c ∧ X c ≤ 4096) : L.length ≤ 16384 := by
  have key := nodup_lt 16384 (L.map fun b => b.c.toNat * 4096 + b.i.toNat) ?_ ?_
  · simpa using key
  · rw [List.nodup_iff_pairwise_ne, List.pairwise_map, List.pairwise_iff_getElem]
    intro j k hj hk hjk e
    obtain ⟨c, i, q1, q2, e1, e2⟩ := h.dom j hj
    obtain ⟨c', i', p1, p2, f1, f2⟩ := h.dom k hk
    have a1 := hX c q1
    have a2 := hX c' p1
    have b1 := h9 c (by have := h.wf.len; omega)
    have b2 := h9 c' (by have := h.wf.len; omega)
    rw [e1, e2, f1, f2] at e
    simp only [Int.toNat_natCast] at e
    have := h.nd j k hj hk (by omega) (by omega)
    omega
  · intro x hx
    obtain ⟨b, hb, rfl⟩ := List.mem_map.1 hx
    obtain ⟨k, hk, rfl⟩ := List.getElem_of_mem hb
    obtain ⟨c, i, q1, q2, e1, e2⟩ := h.dom k hk
    have a1 := hX c q1
    have b1 := h9 c (by have := h.wf.len; omega)
    have := h.wf.len
    rw [e1, e2]
    simp only [Int.toNat_natCast]
    omega

/-! ### the document's arena, told by the real one -/
structure RelE (X : Nat → Int) (A : List (List ABlk)) (L : List RBlk) : Prop where
  rel : RelS (er A) L
  lens : Lens X (er A)
  big : ∀ c, c < 4 → 0 ≤ X c ∧ X c ≤ 4096
def RAr (X : Nat → Int) (y : Nat) (A : List (List ABlk)) : Asr := ex fun L => pur (RelE X A L) * refA y X L
theorem rar_open {w : World} {X : Nat → Int} {y : Nat} {A : List (List ABlk)} {F : Asr} (h : Holds w (RAr X y A * F)) : ∃ L, RelE X A L ∧ Holds w (refA y X L * F) := by
  unfold RAr at h
  rw [ex_star] at h
  obtain ⟨L, h⟩ := holds_ex.1 h
  rw [star_assoc] at h
  exact ⟨L, holds_pur.1 h⟩
theorem rar_shut {w : World} {X : Nat → Int} {y : Nat} {A : List (List ABlk)} {L : List RBlk} {F : Asr} (hr : RelE X A L) (h : Holds w (refA y X L * F)) : Holds w (RAr X y A * F) := by
  unfold RAr
  rw [ex_star]
  refine holds_ex.2 ⟨L, ?_⟩
  rw [star_assoc]
  exact holds_pur.2 ⟨hr, h⟩
theorem r_alloc (X : Nat → Int) (y : Nat) (A : List (List ABlk)) (F : Asr) (n : Int) (w : World) (hw : Holds w (RAr X y A * F)) :
    Calls Try.prog 74 #[.pointer (some ⟨y, 0, none⟩), .int .i64 n] w fun e w' => e = .returned (.tuple #[.int .i64 (allocA A n).h.1, .int .i64 (allocA A n).h.2.1, .int .i64 (allocA A n).h.2.2, .int .i64 (allocA A n).e]) ∧ Holds w' (RAr X y (allocA A n).A * F) ∧ Sm w w' := by
  obtain ⟨L, R, h⟩ := rar_open hw
  refine (ralloc_calls y X L n F w R.big (by have := relS_len R.rel R.lens R.big; omega) h).mono ?_
  rintro e w' ⟨loc, rfl, h1, s1⟩
  obtain ⟨q1, q2, q3, q4⟩ := rel_alloc R.rel R.lens n loc
  rw [er_alloc] at q1 q2 q3 q4
  simp only at q1 q2 q3 q4
  refine ⟨by rw [q1, q2], rar_shut ⟨q3, q4, R.big⟩ h1, s1⟩
theorem r_hold (X : Nat → Int) (y : Nat) (A : List (List ABlk)) (F : Asr) (c i g : Int) (w : World) (hw : Holds w (RAr X y A * F)) :
    Calls Try.prog 55 #[.pointer (some ⟨y, 0, none⟩), .int .i64 c, .int .i64 i, .int .i64 g] w fun e w' => e = .returned (.int .i64 (holdA A c i g).e) ∧ Holds w' (RAr X y (holdA A c i g).A * F) ∧ Sm w w' := by
  obtain ⟨L, R, h⟩ := rar_open hw
  refine (hold_calls y X L F c i g w h).mono ?_
  rintro e w' ⟨rfl, h1, s1⟩
  obtain ⟨q1, q2⟩ := rel_hold R.rel c i g
  obtain ⟨p1, p2⟩ := er_hold A c i g
  have q3 := lens_hold R.lens c i g
  rw [p1] at q2 q3
  rw [p2] at q1
  exact ⟨by rw [q1], rar_shut ⟨q2, q3, R.big⟩ h1, s1⟩
theorem r_drop (X : Nat → Int) (y : Nat) (A : List (List ABlk)) (F : Asr) (c i g : Int) (w : World) (hw : Holds w (RAr X y A * F)) :
    Calls Try.prog 52 #[.pointer (some ⟨y, 0, none⟩), .int .i64 c, .int .i64 i, .int .i64 g] w fun e w' => e = .returned (.int .i64 (dropA A c i g).e) ∧ Holds w' (RAr X y (dropA A c i g).A * F) ∧ Sm w w' := by
  obtain ⟨L, R, h⟩ := rar_open hw
  refine (drop_calls y X L F c i g w h).mono ?_
  rintro e w' ⟨rfl, h1, s1⟩
  obtain ⟨q1, q2⟩ := rel_drop R.rel c i g
  obtain ⟨p1, p2⟩ := er_drop A c i g
  have q3 := lens_drop R.lens c i g
  rw [p1] at q2 q3
  rw [p2] at q1
  exact ⟨by rw [q1], rar_shut ⟨q2, q3, R.big⟩ h1, s1⟩
theorem r_live (X : Nat → Int) (y : Nat) (A : List (List ABlk)) (F : Asr) (c : Int) (w : World) (hw : Holds w (RAr X y A * F)) :
    Calls Try.prog 28 #[.pointer (some ⟨y, 0, none⟩), .int .i64 c] w fun e w' => e = .returned (.int .i64 (liveA A c : Nat)) ∧ Holds w' (RAr X y A * F) ∧ Sm w w' := by
  obtain ⟨L, R, h⟩ := rar_open hw
  refine (live_calls y X L F c w h).mono ?_
  rintro e w' ⟨rfl, rfl⟩
  exact ⟨by rw [rel_live R.rel c, er_live], rar_shut R h, Sm.refl _⟩
theorem rar_write {w : World} {X : Nat → Int} {y : Nat} {A A' : List (List ABlk)} {F : Asr} (h : Holds w (RAr X y A * F)) (e : er A' = er A) : Holds w (RAr X y A' * F) := by
  obtain ⟨L, R, h⟩ := rar_open h
  exact rar_shut ⟨by rw [e]; exact R.rel, by rw [e]; exact R.lens, R.big⟩ h
#print axioms r_alloc
end Go.Proofs.Ytefcinifaaablaa.Chain
