/-
  Layer 15: the arena as its callers see it: of each class its blocks, each with how often it is held, its generation and its bytes.
-/
import Derived.Test.YtefcinifaaablaaSlabApi
namespace Go.Proofs.Ytefcinifaaablaa.Slab
open Go.RowKit Go.Sep
set_option maxRecDepth 100000
set_option linter.unusedVariables false
set_option linter.unusedSimpArgs false

structure ABlk where
  held : Int
  gen : Int
  bytes : List Int
  deriving Inhabited
def szN (c : Nat) : Nat := (szOf c).toNat
theorem szN_val (c : Nat) (hc : c < 4) : szOf c = (szN c : Int) ∧ 0 < szN c ∧ szN c ≤ 4096 := by
  have : c = 0 ∨ c = 1 ∨ c = 2 ∨ c = 3 := by omega
  rcases this with rfl | rfl | rfl | rfl <;> simp [szN, szOf]

structure RepB (sz : Nat) (b : Blk) (a : ABlk) : Prop where
  held : b.held = a.held
  gen : b.gen = a.gen
  yes : b.made = true → b.bytes = a.bytes
  no : b.made = false → a.held = 0
  len : a.bytes.length = sz
  lo : 0 ≤ a.held
  hi : a.held ≤ 1048576
  free : a.held = 0 → a.bytes = zeros sz
  byte : ∀ x ∈ a.bytes, 0 ≤ x ∧ x < 256
  wf : (Lit.int .i64 a.gen).wf = true
structure RepL (sz : Nat) (l : List Blk) (la : List ABlk) : Prop where
  len : l.length = la.length
  cap : l.length ≤ 4096
  at_ : ∀ i (h : i < l.length) (h' : i < la.length), RepB sz l[i] la[i]
structure Rep (m : List Cls) (A : List (List ABlk)) : Prop where
  len : m.length = 4
  alen : A.length = 4
  at_ : ∀ c (h : c < m.length) (h' : c < A.length), RepL (szN c) m[c].l A[c]

def Ar (a : Nat) (A : List (List ABlk)) : Asr := ex fun m => pur (Rep m A) * arenaA a m

theorem ar_open {w : World} {a : Nat} {A : List (List ABlk)} {F : Asr} (h : Holds w (Ar a A * F)) : ∃ m, Rep m A ∧ Holds w (arenaA a m * F) := by
  unfold Ar at h
  rw [ex_star] at h
  obtain ⟨m, h⟩ := holds_ex.1 h
  rw [star_assoc] at h
  exact ⟨m, holds_pur.1 h⟩
theorem ar_shut {w : World} {a : Nat} {A : List (List ABlk)} {m : List Cls} {F : Asr} (hr : Rep m A) (h : Holds w (arenaA a m * F)) : Holds w (Ar a A * F) := by
  unfold Ar
  rw [ex_star]
  refine holds_ex.2 ⟨m, ?_⟩
  rw [star_assoc]
  exact holds_pur.2 ⟨hr, h⟩

theorem Rep.fit {m : List Cls} {A : List (List ABlk)} (h : Rep m A) : Fit m := by
  refine ⟨h.len, fun k hk => ?_⟩
  obtain ⟨j, hj, rfl⟩ := List.getElem_of_mem hk
  exact (h.at_ j hj (by have := h.len; have := h.alen; omega)).cap

def blkA (A : List (List ABlk)) (c i : Int) : Option ABlk := if 0 ≤ c ∧ 0 ≤ i then (A[c.toNat]?).bind fun k => k[i.toNat]? else none
def rightA (A : List (List ABlk)) (c i g : Int) : Bool := match blkA A c i with
  | some b => b.held != 0 && b.gen == g
  | none => false
def setA (A : List (List ABlk)) (c i : Int) (b : ABlk) : List (List ABlk) := A.modify c.toNat fun k => k.set i.toNat b

theorem blk_rel {m : List Cls} {A : List (List ABlk)} (h : Rep m A) (c i : Int) : (blkAt m c i = none ∧ blkA A c i = none) ∨ ∃ (c' i' : Nat) (h1 : c' < m.length) (h2 : c' < A.length) (h3 : i' < m[c'].l.length) (h4 : i' < A[c'].length), c = c' ∧ i = i' ∧ blkAt m c i = some m[c'].l[i'] ∧ blkA A c i = some A[c'][i'] := by
  unfold blkAt blkA
  by_cases h0 : 0 ≤ c ∧ 0 ≤ i
  · rw [if_pos h0, if_pos h0]
    by_cases hc : c.toNat < 4
    · have h1 : c.toNat < m.length := by have := h.len; omega
      have h2 : c.toNat < A.length := by have := h.alen; omega
      have hl := (h.at_ _ h1 h2).len
      rw [List.getElem?_eq_getElem h1, List.getElem?_eq_getElem h2]
      simp only [Option.bind_some]
      by_cases hi : i.toNat < m[c.toNat].l.length
      · have h4 : i.toNat < A[c.toNat].length := by omega
        rw [List.getElem?_eq_getElem hi, List.getElem?_eq_getElem h4]
        exact .inr ⟨c.toNat, i.toNat, h1, h2, hi, h4, by omega, by omega, rfl, rfl⟩
      · rw [List.getElem?_eq_none (by omega), List.getElem?_eq_none (by omega)]
        exact .inl ⟨rfl, rfl⟩
    · rw [List.getElem?_eq_none (by have := h.len; omega), List.getElem?_eq_none (by have := h.alen; omega)]
      exact .inl ⟨rfl, rfl⟩
  · rw [if_neg h0, if_neg h0]; exact .inl ⟨rfl, rfl⟩
theorem right_rel {m : List Cls} {A : List (List ABlk)} (h : Rep m A) (c i g : Int) : right m c i g = rightA A c i g := by
  unfold right rightA
  rcases blk_rel h c i with ⟨e1, e2⟩ | ⟨c', i', h1, h2, h3, h4, rfl, rfl, e1, e2⟩
  · rw [e1, e2]
  · rw [e1, e2]
    have := (h.at_ _ h1 h2).at_ i' h3 h4
    simp only [this.held, this.gen]
/-- what a right handle leads to -/
theorem right_yes {m : List Cls} {A : List (List ABlk)} (h : Rep m A) {c i g : Int} (hr : rightA A c i g = true) :
    ∃ (c' i' : Nat) (h1 : c' < m.length) (h2 : c' < A.length) (h3 : i' < m[c'].l.length) (h4 : i' < A[c'].length), c = c' ∧ i = i' ∧ blkA A c i = some A[c'][i'] ∧ RepB (szN c') m[c'].l[i'] A[c'][i'] ∧ A[c'][i'].held ≠ 0 ∧ A[c'][i'].gen = g ∧ m[c'].l[i'].made = true := by
  rcases blk_rel h c i with ⟨e1, e2⟩ | ⟨c', i', h1, h2, h3, h4, rfl, rfl, e1, e2⟩
  · simp [rightA, e2] at hr
  · simp only [rightA, e2, Bool.and_eq_true, bne_iff_ne, beq_iff_eq] at hr
    have hb := (h.at_ _ h1 h2).at_ i' h3 h4
    refine ⟨c', i', h1, h2, h3, h4, rfl, rfl, e2, hb, hr.1, hr.2, ?_⟩
    cases hm : m[c'].l[i'].made with
    | true => rfl
    | false => exact absurd (hb.no hm) hr.1

theorem Rep.set {m : List Cls} {A : List (List ABlk)} (h : Rep m A) (c i : Nat) (h1 : c < m.length) {b : Blk} {a : ABlk} (hb : RepB (szN c) b a) : Rep (setBlk m c i b) (setA A c i a) := by
  refine ⟨by simp [setBlk, h.len], by simp [setA, h.alen], fun j hj hj' => ?_⟩
  have k1 : j < m.length := by simpa [setBlk] using hj
  have k2 : j < A.length := by simpa [setA] using hj'
  have hl := h.at_ j k1 k2
  simp only [setBlk, setA, List.getElem_modify]
  by_cases e : (c : Int).toNat = j
  · rw [if_pos e, if_pos e]
    refine ⟨by simpa using hl.len, by simpa using hl.cap, fun t ht ht' => ?_⟩
    simp only [List.getElem_set]
    by_cases e2 : (i : Int).toNat = t
    · rw [if_pos e2, if_pos e2]
      simp at e; subst e; exact hb
    · rw [if_neg e2, if_neg e2]
      exact hl.at_ t (by simpa using ht) (by simpa using ht')
  · rw [if_neg e, if_neg e]; exact hl

/-! ### New -/
def newA (X : Nat → Int) : List (List ABlk) := (List.range 4).map fun c => List.replicate (X c).toNat ⟨0, 0, zeros (szN c)⟩
theorem rep_new {X : Nat → Int} {m : List Cls} (h4 : m.length = 4) (hf : Fresh X m) (hX : ∀ j, j < 4 → X j ≤ 4096) : Rep m (newA X) := by
  refine ⟨h4, by simp [newA], fun c hc hc' => ?_⟩
  have e1 := hf c hc
  have e2 : (newA X)[c] = List.replicate (X c).toNat ⟨0, 0, zeros (szN c)⟩ := by simp [newA]
  rw [e1, e2]
  refine ⟨by simp, by simp; have := hX c (by omega); omega, fun i hi hi' => ?_⟩
  simp only [List.getElem_replicate]
  exact ⟨rfl, rfl, by simp [blk0], fun _ => rfl, by simp [zeros], by simp, by simp, fun _ => rfl, fun x hx => by simp only [zeros] at hx; have := (List.mem_replicate.1 hx).2; omega, by rfl⟩

def NewA (X : Nat → Int) (F : Asr) (w : World) (e : Ending) (w' : World) : Prop :=
  ∃ a, e = .returned (.tuple #[.pointer (some ⟨a, 0, none⟩), .int .i64 0]) ∧ Holds w' (Ar a (newA X) * F) ∧ Sm w w'
theorem newA_calls (x0 x1 x2 x3 : Int) (F : Asr) (w : World) (hw : Holds w F) (hb : newBad (X4 x0 x1 x2 x3) = 0) :
    Calls Try.prog 10 #[.agg #[.int .i64 x0, .int .i64 x1, .int .i64 x2, .int .i64 x3]] w (NewA (X4 x0 x1 x2 x3) F w) :=
  (new_ok x0 x1 x2 x3 F w hw hb).mono fun e w' ⟨a, m, h1, h2, h3, h4, h5⟩ => ⟨a, h1, ar_shut (rep_new h2 h3 fun j hj => (newBad_zero hb j hj).2) h4, h5⟩

/-! ### Alloc -/
def freeA (l : List ABlk) : Nat := l.findIdx fun b => b.held == 0
theorem free_rel {sz : Nat} {l : List Blk} {la : List ABlk} (h : RepL sz l la) : freeAt l = freeA la := by
  unfold freeAt freeA
  obtain ⟨h1, -, h3⟩ := h
  induction l generalizing la with
  | nil => cases la with
    | nil => rfl
    | cons => simp at h1
  | cons x l ih =>
    cases la with
    | nil => simp at h1
    | cons y la =>
      have h0 := h3 0 (by simp) (by simp)
      simp only [List.getElem_cons_zero] at h0
      have := ih (la := la) (by simpa using h1) fun i hi hi' => by have := h3 (i + 1) (by simpa using hi) (by simpa using hi'); simp only [List.getElem_cons_succ] at this; exact this
      simp only [List.findIdx_cons, h0.held, this]
structure Took where
  A : List (List ABlk)
  h : Int × Int × Int
  e : Int
def allocA (A : List (List ABlk)) (n : Int) : Took :=
  if n < 0 ∨ 4096 < n then ⟨A, (0, 0, 0), 2⟩ else
  let c := (clsFor n).toNat
  let l := A.getD c []
  let i := freeA l
  if i = l.length then ⟨A, (0, 0, 0), 14⟩ else
  let b := l.getD i default
  ⟨setA A c i ⟨1, wrap64 (b.gen + 1), b.bytes⟩, (c, i, wrap64 (b.gen + 1)), 0⟩
def hdlV (h : Int × Int × Int) : Value := hdl h.1 h.2.1 h.2.2

theorem allocA_calls (a : Nat) (A : List (List ABlk)) (F : Asr) (n : Int) (w : World) (hw : Holds w (Ar a A * F)) :
    Calls Try.prog 71 #[.pointer (some ⟨a, 0, none⟩), .int .i64 n] w fun e w' => e = .returned (.tuple #[hdlV (allocA A n).h, .int .i64 (allocA A n).e]) ∧ Holds w' (Ar a (allocA A n).A * F) ∧ Sm w w' := by
  obtain ⟨m, hr, hw'⟩ := ar_open hw
  by_cases hn : n < 0 ∨ 4096 < n
  · have e : allocA A n = ⟨A, (0, 0, 0), 2⟩ := by unfold allocA; rw [if_pos hn]
    rw [e]
    exact (alloc_arg a n w hn (arena_made hw') (arena_lt hw')).mono fun e w' ⟨h1, h2⟩ => ⟨h1, hw.grow h2, .of_below h2⟩
  · have hc : ∃ c : Nat, clsFor n = c ∧ c < 4 := by
      unfold clsFor
      split
      · exact ⟨0, rfl, by omega⟩
      · split
        · exact ⟨1, rfl, by omega⟩
        · split
          · exact ⟨2, rfl, by omega⟩
          · rw [if_pos (by omega)]; exact ⟨3, rfl, by omega⟩
    obtain ⟨c, hc, hc4⟩ := hc
    have h1 : c < m.length := by have := hr.len; omega
    have h2 : c < A.length := by have := hr.alen; omega
    have hl := hr.at_ c h1 h2
    have hfr := free_rel hl
    have eA : A.getD c [] = A[c] := by simp [List.getD, h2]
    by_cases hfull : freeAt m[c].l = m[c].l.length
    · have e : allocA A n = ⟨A, (0, 0, 0), 14⟩ := by
        unfold allocA; rw [if_neg hn]; simp only [hc, Int.toNat_natCast, eA]; rw [if_pos (by rw [← hfr, hfull, hl.len])]
      rw [e]
      exact (alloc_full a m F n w hr.fit hw' (by omega) (by omega) c h1 hc hfull).mono fun e w' ⟨h1, h2⟩ => ⟨h1, hw.grow h2, .of_below h2⟩
    · have hi : freeAt m[c].l < m[c].l.length := by have : freeAt m[c].l ≤ m[c].l.length := List.findIdx_le_length; omega
      have hi' : freeA A[c] < A[c].length := by have := hl.len; omega
      obtain ⟨i, hie⟩ : ∃ i, freeA A[c] = i := ⟨_, rfl⟩
      rw [hie] at hi' hfr
      rw [hfr] at hi
      have hb := hl.at_ i hi hi'
      have e : allocA A n = ⟨setA A c i ⟨1, wrap64 (A[c][i].gen + 1), A[c][i].bytes⟩, (c, i, wrap64 (A[c][i].gen + 1)), 0⟩ := by
        unfold allocA; rw [if_neg hn]; simp only [hc, Int.toNat_natCast, eA, hie]; rw [if_neg (by omega)]
        simp [List.getD, hi']
      have hfz : A[c][i].held = 0 := by
        have := List.findIdx_getElem (w := show A[c].findIdx (fun b => b.held == 0) < A[c].length by show freeA _ < _; omega)
        have e2 : A[c].findIdx (fun b => b.held == 0) = i := hie
        simp only [e2] at this
        simpa using this
      rw [e]
      refine (alloc_ok a m F n w hr.fit hw' (by omega) (by omega) c i h1 hc hi hfr).mono fun e w' ⟨loc, k1, k2, k3⟩ => ⟨?_, ?_, k3⟩
      · rw [k1, hb.gen]; rfl
      · refine ar_shut (hr.set c i h1 ?_) k2
        have hz := hb.free hfz
        refine ⟨?_, ?_, fun _ => ?_, fun h => ?_, hb.len, by simp, by simp, by simp, hb.byte, wrap64_wf _⟩
        · unfold alloced taken; rfl
        · show wrap64 _ = _
          split
          · rw [hb.gen]
          · show wrap64 (m[c].l[i].gen + 1) = _; rw [hb.gen]
        · show (if m[c].l[i].made then m[c].l[i] else made loc _ m[c].l[i]).bytes = _
          split
          · exact hb.yes ‹_›
          · rw [hz]; rfl
        · exfalso
          have : (alloced loc (szOf c).toNat m[c].l[i]).made = true := by
            show (if m[c].l[i].made then m[c].l[i] else made loc _ m[c].l[i]).made = true
            split
            · assumption
            · rfl
          rw [this] at h; simp at h
#print axioms allocA_calls
end Go.Proofs.Ytefcinifaaablaa.Slab
