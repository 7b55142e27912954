/-
  Layer 15: the arena against the document's arena, as plain data: each call answers alike and keeps the relation.
-/
import Derived.Test.YtefcinifaaablaaRef15d
import Derived.Test.YtefcinifaaablaaSlabOps
namespace Go.Proofs.Ytefcinifaaablaa.Ref15
open Go.RowKit Go.Sep
open Go.Proofs.Ytefcinifaaablaa.Slab (szOf szN szN_val ABlk blkA rightA setA zeros holdA dropA dropB heldA writeA readA liveA allocA freeA clsFor)
set_option maxRecDepth 100000
set_option linter.unusedVariables false
set_option linter.unusedSimpArgs false

/-- what an arena in memory is sure of -/
structure WfB (sz : Nat) (a : ABlk) : Prop where
  lo : 0 ≤ a.held
  hi : a.held ≤ 1048576
  len : a.bytes.length = sz
  free : a.held = 0 → a.bytes = zeros sz
  byte : ∀ x ∈ a.bytes, 0 ≤ x ∧ x < 256
structure WfA (A : List (List ABlk)) : Prop where
  len : A.length = 4
  at_ : ∀ c i (h : c < A.length) (h2 : i < A[c].length), WfB (szN c) A[c][i]
theorem ar_wf {w : World} {a : Nat} {A : List (List ABlk)} {F : Asr} (h : Holds w (Slab.Ar a A * F)) : WfA A := by
  obtain ⟨m, hr, -⟩ := Slab.ar_open h
  refine ⟨hr.alen, fun c i h h2 => ?_⟩
  have h1 : c < m.length := by have := hr.len; have := hr.alen; omega
  have hl := hr.at_ c h1 h
  have hi : i < m[c].l.length := by have := hl.len; omega
  have hb := hl.at_ i hi h2
  exact ⟨hb.lo, hb.hi, hb.len, hb.free, hb.byte⟩

structure RelAt (L : List RBlk) (c i : Nat) (a : ABlk) : Prop where
  no : findI L c i = none → a.held = 0 ∧ a.gen = 0
  yes : ∀ k (h : findI L c i = some k) (hk : k < L.length), L[k].h = a.held ∧ L[k].g = a.gen ∧ (a.held ≠ 0 → L[k].bytes = a.bytes ∧ ∃ x, L[k].loc = some x)
structure RelS (A : List (List ABlk)) (L : List RBlk) : Prop where
  wf : WfA A
  nd : ∀ j k (hj : j < L.length) (hk : k < L.length), L[j].c = L[k].c → L[j].i = L[k].i → j = k
  dom : ∀ k (hk : k < L.length), ∃ (c i : Nat) (h : c < A.length) (h2 : i < A[c].length), L[k].c = c ∧ L[k].i = i
  at_ : ∀ c i (h : c < A.length) (h2 : i < A[c].length), RelAt L c i A[c][i]

theorem findI_is {L : List RBlk} {c i : Int} {k : Nat} (h : findI L c i = some k) : ∃ hk : k < L.length, L[k].c = c ∧ L[k].i = i := by
  obtain ⟨h1, h2, -⟩ := List.findIdx?_eq_some_iff_getElem.1 h
  simp at h2
  exact ⟨h1, h2.1, h2.2⟩
theorem findI_key {L : List RBlk} (nd : ∀ j k (hj : j < L.length) (hk : k < L.length), L[j].c = L[k].c → L[j].i = L[k].i → j = k) {c i : Int} {k : Nat} (hk : k < L.length) (h1 : L[k].c = c) (h2 : L[k].i = i) : findI L c i = some k := by
  unfold findI
  rw [List.findIdx?_eq_some_iff_getElem]
  refine ⟨hk, by simp [h1, h2], fun j hj => ?_⟩
  simp only [Bool.and_eq_true, beq_iff_eq, Bool.not_eq_true, Bool.and_eq_false_iff, beq_eq_false_iff_ne]
  rintro ⟨q1, q2⟩
  have := nd j k (by omega) hk (q1.trans h1.symm) (q2.trans h2.symm)
  omega
theorem findI_set {L : List RBlk} {k : Nat} {b : RBlk} (hk : k < L.length) (h1 : b.c = L[k].c) (h2 : b.i = L[k].i) (c i : Int) : findI (L.set k b) c i = findI L c i := by
  unfold findI
  have key : ∀ (l : List RBlk) (k : Nat) (hk : k < l.length), b.c = l[k].c → b.i = l[k].i → (l.set k b).findIdx? (fun b => b.c == c && b.i == i) = l.findIdx? (fun b => b.c == c && b.i == i) := by
    intro l
    induction l with
    | nil => intro k hk; simp at hk
    | cons x l ih =>
      intro k hk e1 e2
      cases k with
      | zero => simp only [List.getElem_cons_zero] at e1 e2; simp [List.findIdx?_cons, e1, e2]
      | succ k =>
        simp only [List.getElem_cons_succ] at e1 e2
        simp only [List.set_cons_succ, List.findIdx?_cons, ih k (by simpa using hk) e1 e2]
  exact key L k hk h1 h2
theorem OkL_of {A : List (List ABlk)} {L : List RBlk} (h : RelS A L) : OkL L := by
  intro b hb hne
  obtain ⟨k, hk, rfl⟩ := List.getElem_of_mem hb
  obtain ⟨c, i, h1, h2, e1, e2⟩ := h.dom k hk
  have hf := findI_key h.nd hk e1 e2
  obtain ⟨y1, y2, y3⟩ := (h.at_ c i h1 h2).yes k hf hk
  obtain ⟨z1, x, hx⟩ := y3 (by rw [← y1]; exact hne)
  refine ⟨⟨x, hx⟩, ?_⟩
  rw [z1, (h.wf.at_ c i h1 h2).len, e1]
  exact ((szN_val c (by have := h.wf.len; omega)).1).symm

theorem blkA_in (A : List (List ABlk)) (c i : Nat) (h : c < A.length) (h2 : i < A[c].length) : blkA A c i = some A[c][i] := by
  unfold blkA
  rw [if_pos ⟨by omega, by omega⟩]
  simp [h, h2]
theorem blkA_cases (A : List (List ABlk)) (c i : Int) : (blkA A c i = none ∧ ∀ (c' i' : Nat) (h : c' < A.length) (h2 : i' < A[c'].length), ¬ (c = c' ∧ i = i')) ∨ ∃ (c' i' : Nat) (h : c' < A.length) (h2 : i' < A[c'].length), c = c' ∧ i = i' := by
  by_cases h : ∃ (c' i' : Nat) (h : c' < A.length) (h2 : i' < A[c'].length), c = c' ∧ i = i'
  · exact .inr h
  · refine .inl ⟨?_, fun c' i' h1 h2 e => h ⟨c', i', h1, h2, e⟩⟩
    unfold blkA
    by_cases h0 : 0 ≤ c ∧ 0 ≤ i
    · rw [if_pos h0]
      cases hc : A[c.toNat]? with
      | none => rfl
      | some l =>
        simp only [Option.bind_some]
        cases hi : l[i.toNat]? with
        | none => rfl
        | some b =>
          exfalso
          obtain ⟨hc1, hc2⟩ := List.getElem?_eq_some_iff.1 hc
          obtain ⟨hi1, -⟩ := List.getElem?_eq_some_iff.1 hi
          subst hc2
          exact h ⟨c.toNat, i.toNat, hc1, hi1, by omega, by omega⟩
    · rw [if_neg h0]
/-- a handle is right in both or in neither -/
theorem right_both {A : List (List ABlk)} {L : List RBlk} (h : RelS A L) (c i g : Int) :
    (rightI L c i g = none ∧ rightA A c i g = false) ∨ ∃ (c' i' k : Nat) (h1 : c' < A.length) (h2 : i' < A[c'].length) (hk : k < L.length), c = c' ∧ i = i' ∧ rightI L c i g = some k ∧ findI L c i = some k ∧ rightA A c i g = true ∧ blkA A c i = some A[c'][i'] ∧ A[c'][i'].held ≠ 0 ∧ L[k].h = A[c'][i'].held ∧ L[k].g = A[c'][i'].gen ∧ L[k].bytes = A[c'][i'].bytes ∧ (∃ x, L[k].loc = some x) ∧ L[k].c = c' ∧ L[k].i = i' := by
  rcases blkA_cases A c i with ⟨hb, hno⟩ | ⟨c', i', h1, h2, rfl, rfl⟩
  · refine .inl ⟨?_, by simp [rightA, hb]⟩
    cases hf : findI L c i with
    | none => simp [rightI, hf]
    | some k =>
      obtain ⟨hk, e1, e2⟩ := findI_is hf
      obtain ⟨c', i', h1, h2, d1, d2⟩ := h.dom k hk
      exact absurd ⟨e1.symm.trans d1, e2.symm.trans d2⟩ (hno c' i' h1 h2)
  · have hb := blkA_in A c' i' h1 h2
    have R := h.at_ c' i' h1 h2
    cases hf : findI L c' i' with
    | none =>
      refine .inl ⟨by simp [rightI, hf], ?_⟩
      simp [rightA, hb, (R.no hf).1]
    | some k =>
      obtain ⟨hk, e1, e2⟩ := findI_is hf
      obtain ⟨y1, y2, y3⟩ := R.yes k hf hk
      have er : rightI L c' i' g = if L[k].h != 0 && L[k].g == g then some k else none := by
        simp only [rightI, hf, Option.filter, List.getElem?_eq_getElem hk]
      have ea : rightA A c' i' g = (A[c'][i'].held != 0 && A[c'][i'].gen == g) := by simp [rightA, hb]
      rw [y1, y2] at er
      cases hr : (A[c'][i'].held != 0 && A[c'][i'].gen == g) with
      | false => rw [hr] at er ea; exact .inl ⟨by simpa using er, ea⟩
      | true =>
        rw [hr] at er ea
        simp only [Bool.and_eq_true, bne_iff_ne, beq_iff_eq] at hr
        obtain ⟨z1, z2⟩ := y3 hr.1
        exact .inr ⟨c', i', k, h1, h2, hk, rfl, rfl, by simpa using er, rfl, ea, hb, hr.1, y1, y2, z1, z2, e1, e2⟩

theorem setA_get {A : List (List ABlk)} {c i c2 i2 : Nat} {a : ABlk} (h : c2 < (setA A c i a).length) (h2 : i2 < (setA A c i a)[c2].length) (h' : c2 < A.length) (h2' : i2 < A[c2].length) : (setA A c i a)[c2][i2] = if c = c2 ∧ i = i2 then a else A[c2][i2] := by
  simp only [setA, List.getElem_modify]
  by_cases e : (c : Int).toNat = c2
  · have e' : c = c2 := by simpa using e
    subst e'
    simp only [Int.toNat_natCast, if_true, List.getElem_set]
    by_cases e2 : i = i2
    · simp [e2]
    · simp [e2]
  · have e' : ¬ c = c2 := by simpa using e
    simp [e']
theorem setA_len {A : List (List ABlk)} {c i : Nat} {a : ABlk} : (setA A c i a).length = A.length := by simp [setA]
theorem setA_row {A : List (List ABlk)} {c i c2 : Nat} {a : ABlk} (h : c2 < (setA A c i a).length) (h' : c2 < A.length) : (setA A c i a)[c2].length = A[c2].length := by
  simp only [setA, List.getElem_modify]; split <;> simp
/-- one block turns in both -/
theorem RelS.upd {A : List (List ABlk)} {L : List RBlk} (h : RelS A L) {c i k : Nat} (h1 : c < A.length) (h2 : i < A[c].length) (hk : k < L.length) (hc : L[k].c = c) (hi : L[k].i = i) {a : ABlk} {b : RBlk} (hw : WfB (szN c) a) (bc : b.c = L[k].c) (bi : b.i = L[k].i) (bh : b.h = a.held) (bg : b.g = a.gen) (bb : a.held ≠ 0 → b.bytes = a.bytes ∧ ∃ x, b.loc = some x) :
    RelS (setA A c i a) (L.set k b) := by
  have hs : ∀ j (hj : j < (L.set k b).length) (hj' : j < L.length), (L.set k b)[j].c = L[j].c ∧ (L.set k b)[j].i = L[j].i := by
    intro j hj hj'
    rw [List.getElem_set]
    by_cases e : k = j
    · subst e; simp [bc, bi]
    · simp [e]
  have hf := findI_key h.nd hk hc hi
  refine ⟨⟨by rw [setA_len]; exact h.wf.len, fun c2 i2 q1 q2 => ?_⟩, fun j m hj hm e1 e2 => ?_, fun j hj => ?_, fun c2 i2 q1 q2 => ?_⟩
  · have p1 : c2 < A.length := by rw [setA_len] at q1; exact q1
    have p2 : i2 < A[c2].length := by rw [setA_row q1 p1] at q2; exact q2
    rw [setA_get q1 q2 p1 p2]
    by_cases e : c = c2 ∧ i = i2
    · rw [if_pos e]; obtain ⟨rfl, rfl⟩ := e; exact hw
    · rw [if_neg e]; exact h.wf.at_ c2 i2 p1 p2
  · have hj' : j < L.length := by simpa using hj
    have hm' : m < L.length := by simpa using hm
    rw [(hs j hj hj').1, (hs m hm hm').1] at e1
    rw [(hs j hj hj').2, (hs m hm hm').2] at e2
    exact h.nd j m hj' hm' e1 e2
  · have hj' : j < L.length := by simpa using hj
    obtain ⟨c2, i2, p1, p2, d1, d2⟩ := h.dom j hj'
    have q1 : c2 < (setA A c i a).length := by rw [setA_len]; exact p1
    exact ⟨c2, i2, q1, by rw [setA_row q1 p1]; exact p2, (hs j hj hj').1.trans d1, (hs j hj hj').2.trans d2⟩
  · have p1 : c2 < A.length := by rw [setA_len] at q1; exact q1
    have p2 : i2 < A[c2].length := by rw [setA_row q1 p1] at q2; exact q2
    rw [setA_get q1 q2 p1 p2]
    have R := h.at_ c2 i2 p1 p2
    by_cases e : c = c2 ∧ i = i2
    · rw [if_pos e]
      obtain ⟨rfl, rfl⟩ := e
      refine ⟨fun hn => ?_, fun m hm hml => ?_⟩
      · rw [findI_set hk bc bi, hf] at hn; cases hn
      · rw [findI_set hk bc bi, hf] at hm
        obtain rfl : k = m := by simpa using hm
        rw [List.getElem_set_self]
        exact ⟨bh, bg, bb⟩
    · rw [if_neg e]
      refine ⟨fun hn => ?_, fun m hm hml => ?_⟩
      · rw [findI_set hk bc bi] at hn; exact R.no hn
      · rw [findI_set hk bc bi] at hm
        have hml' : m < L.length := by simpa using hml
        obtain ⟨hk2, f1, f2⟩ := findI_is hm
        have hne : k ≠ m := by
          rintro rfl
          exact e ⟨by have := hc.symm.trans f1; omega, by have := hi.symm.trans f2; omega⟩
        rw [List.getElem_set_ne hne]
        exact R.yes m hm hml'

theorem rel_held {A : List (List ABlk)} {L : List RBlk} (h : RelS A L) (c i g : Int) : heldL L c i g = heldA A c i g := by
  rcases right_both h c i g with ⟨e1, e2⟩ | ⟨c', i', k, h1, h2, hk, rfl, rfl, e1, -, e2, e3, -, y1, -⟩
  · simp [heldL, heldA, e1, e2]
  · simp [heldL, heldA, e1, e2, e3, hk, y1, List.getD]
theorem rel_hold {A : List (List ABlk)} {L : List RBlk} (h : RelS A L) (c i g : Int) : (holdL L c i g).e = (holdA A c i g).e ∧ RelS (holdA A c i g).A (holdL L c i g).L := by
  rcases right_both h c i g with ⟨e1, e2⟩ | ⟨c', i', k, h1, h2, hk, rfl, rfl, e1, -, e2, e3, hne, y1, y2, y3, y4, y5, y6⟩
  · simp only [holdL, holdA, e1, e2]; exact ⟨rfl, h⟩
  · have W := h.wf.at_ c' i' h1 h2
    have eg : L.getD k ⟨0, 0, 0, 0, none, []⟩ = L[k] := by simp [List.getD, hk]
    simp only [holdL, holdA, e1, e2, e3, if_true, Option.getD_some, eg, y1]
    by_cases hb : A[c'][i'].held = 1048576
    · simp only [hb, if_true]; exact ⟨by trivial, h⟩
    · simp only [hb, if_false]
      have b1 := W.lo
      have b2 := W.hi
      have ew : wrap64 (A[c'][i'].held + 1) = A[c'][i'].held + 1 := by unfold wrap64; omega
      refine ⟨by trivial, h.upd h1 h2 hk y5 y6 ⟨by simp only; omega, by simp only; omega, W.len, fun e => by simp only at e; omega, W.byte⟩ rfl rfl ?_ y2 fun _ => ⟨y3, y4⟩⟩
      simp only [ew]
theorem rel_drop {A : List (List ABlk)} {L : List RBlk} (h : RelS A L) (c i g : Int) : (dropL L c i g).e = (dropA A c i g).e ∧ RelS (dropA A c i g).A (dropL L c i g).L := by
  rcases right_both h c i g with ⟨e1, e2⟩ | ⟨c', i', k, h1, h2, hk, rfl, rfl, e1, -, e2, e3, hne, y1, y2, y3, y4, y5, y6⟩
  · simp only [dropL, dropA, e1, e2]; exact ⟨rfl, h⟩
  · have W := h.wf.at_ c' i' h1 h2
    have eg : L.getD k ⟨0, 0, 0, 0, none, []⟩ = L[k] := by simp [List.getD, hk]
    simp only [dropL, dropA, e1, e2, e3, if_true, Option.getD_some, eg, y1]
    have b1 := W.lo
    have b2 := W.hi
    have ew : wrap64 (A[c'][i'].held - 1) = A[c'][i'].held - 1 := by unfold wrap64; omega
    refine ⟨by trivial, h.upd h1 h2 hk y5 y6 ⟨?_, ?_, ?_, fun e => ?_, ?_⟩ rfl rfl ?_ y2 fun hn => ?_⟩
    · simp only [dropB]; omega
    · simp only [dropB]; omega
    · simp only [dropB]; split
      · simp [zeros, W.len]
      · exact W.len
    · simp only [dropB] at e ⊢
      rw [if_pos (by omega), W.len]
    · simp only [dropB]; split
      · intro x hx; simp only [zeros] at hx; have := (List.mem_replicate.1 hx).2; omega
      · exact W.byte
    · simp only [dropB, ew]
    · simp only [dropB] at hn ⊢
      rw [if_neg (by omega)]
      exact ⟨y3, y4⟩
theorem rel_write {A : List (List ABlk)} {L : List RBlk} (h : RelS A L) (c i g at_ : Int) (bs : List Int) (hb8 : ∀ x ∈ bs, 0 ≤ x ∧ x < 256) : (writeL L c i g at_ bs).e = (writeA A c i g at_ bs).e ∧ RelS (writeA A c i g at_ bs).A (writeL L c i g at_ bs).L := by
  rcases right_both h c i g with ⟨e1, e2⟩ | ⟨c', i', k, h1, h2, hk, rfl, rfl, e1, -, e2, e3, hne, y1, y2, y3, y4, y5, y6⟩
  · simp only [writeL, writeA, e1, e2]; exact ⟨rfl, h⟩
  · have W := h.wf.at_ c' i' h1 h2
    have eg : L.getD k ⟨0, 0, 0, 0, none, []⟩ = L[k] := by simp [List.getD, hk]
    have es : (szOf c' : Int) = A[c'][i'].bytes.length := by rw [W.len]; exact (szN_val c' (by have := h.wf.len; omega)).1
    simp only [writeL, writeA, e1, e2, e3, if_true, Option.getD_some, eg, es]
    by_cases hb : at_ < 0 ∨ (A[c'][i'].bytes.length : Int) < at_ ∨ (A[c'][i'].bytes.length : Int) - at_ < bs.length
    · rw [if_pos hb, if_pos hb]; exact ⟨rfl, h⟩
    · rw [if_neg hb, if_neg hb]
      refine ⟨rfl, h.upd h1 h2 hk y5 y6 ⟨W.lo, W.hi, ?_, fun e => absurd e hne, ?_⟩ rfl rfl y1 y2 fun _ => ⟨?_, y4⟩⟩
      · simp only [List.length_append, List.length_take, List.length_drop]; have := W.len; omega
      · intro x hx
        simp only [List.mem_append] at hx
        rcases hx with (hx | hx) | hx
        · exact W.byte x (List.mem_of_mem_take hx)
        · exact hb8 x hx
        · exact W.byte x (List.mem_of_mem_drop hx)
      · simp only [putB, y3]
theorem rel_read {A : List (List ABlk)} {L : List RBlk} (h : RelS A L) (c i g at_ n : Int) : (readL L c i g at_ n).e = (readA A c i g at_ n).e ∧ (readL L c i g at_ n).b = (readA A c i g at_ n).b := by
  rcases right_both h c i g with ⟨e1, e2⟩ | ⟨c', i', k, h1, h2, hk, rfl, rfl, e1, -, e2, e3, hne, y1, y2, y3, y4, y5, y6⟩
  · simp [readL, readA, e1, e2]
  · have W := h.wf.at_ c' i' h1 h2
    have eg : L.getD k ⟨0, 0, 0, 0, none, []⟩ = L[k] := by simp [List.getD, hk]
    have es : (szOf c' : Int) = A[c'][i'].bytes.length := by rw [W.len]; exact (szN_val c' (by have := h.wf.len; omega)).1
    simp only [readL, readA, e1, e2, e3, if_true, Option.getD_some, eg, es]
    by_cases hb : at_ < 0 ∨ n < 0 ∨ (A[c'][i'].bytes.length : Int) < at_ ∨ (A[c'][i'].bytes.length : Int) - at_ < n
    · rw [if_pos hb, if_pos hb]; exact ⟨rfl, rfl⟩
    · rw [if_neg hb, if_neg hb]; exact ⟨rfl, by simp only [y3]⟩
theorem read_byte {A : List (List ABlk)} (W : WfA A) (c i g at_ n : Int) : ∀ x ∈ (readA A c i g at_ n).b, 0 ≤ x ∧ x < 256 := by
  intro x hx
  unfold readA at hx
  split at hx
  · rename_i hr
    rcases blkA_cases A c i with ⟨hb, -⟩ | ⟨c', i', h1, h2, rfl, rfl⟩
    · simp [rightA, hb] at hr
    · simp only [blkA_in A c' i' h1 h2, Option.getD_some] at hx
      split at hx
      · simp at hx
      · exact (W.at_ c' i' h1 h2).byte x (List.mem_of_mem_drop (List.mem_of_mem_take hx))
  · simp at hx
end Go.Proofs.Ytefcinifaaablaa.Ref15
