/-
  FramingBack: what chunks are read as (plain).
-/
import Derived.Test.YtibhnkkfaochhaaDoorDec14
import Derived.Test.YtibhnkkfaochhaaDoorFrChunk
namespace Go.Proofs.YtibhnkkfaochhaaDoor.Dec
open Go.RowKit Go.Sep
open Go.Proofs.YtibhnkkfaochhaaDoor.Tok
open Go.Proofs.YtibhnkkfaochhaaDoor.Fr (hexL dg)
set_option maxRecDepth 100000
set_option linter.unusedVariables false
set_option linter.unusedSimpArgs false

def hexC (n : Nat) : List UInt8 := (hexL 4 n).map fun z => UInt8.ofNat z.toNat
theorem hex_facts : ∀ n, n < 301 → 0 < n → (sizeL (hexC n) = some n ∧ (hexC n).all (fun c => decide (c ≠ 10)) = true ∧ (hexC n).length ≤ 4 ∧ (hexL 4 n).all (fun z => decide (0 ≤ z ∧ z < 256)) = true) := by decide +kernel
def chunkB (p : List UInt8) : List UInt8 := if p = [] then [] else hexC p.length ++ [13, 10] ++ p ++ [13, 10]
def lastB : List UInt8 := [48, 13, 10, 13, 10]
theorem feed_cut : ∀ (b : List UInt8) (S : DS), feedL S (b.take (feedL S b).2.2) = feedL S b
  | [], S => by simp
  | c :: r, S => by
    by_cases h : stopped S = true
    · rw [feed_stop h, feed_stop h]
    · rw [feedL, if_neg h]
      simp only [List.take_succ_cons]
      rw [feedL, if_neg h, feed_cut r]
theorem feed_go {S S1 : DS} {o : List UInt8} {c : UInt8} (h : stopped S = false) (hs : dstep S c = (S1, o)) (r : List UInt8) : feedL S (c :: r) = ((feedL S1 r).1, o ++ (feedL S1 r).2.1, (feedL S1 r).2.2 + 1) := by
  rw [feedL, if_neg (by rw [h]; simp), hs]
/-- a line -/
theorem feed_line (f : DS → List UInt8 → DS) : ∀ (l : List UInt8) (S : DS) (r : List UInt8), stopped S = false → (∀ S1 c, S1.st = S.st → dstep S1 c = onLine S1 c f) → (∀ c ∈ l, c ≠ 10) → (S.own ++ l).length ≤ 1024 →
    feedL S (l ++ 10 :: r) = ((feedL (f { S with own := [] } (stripL (S.own ++ l ++ [10]))) r).1, (feedL (f { S with own := [] } (stripL (S.own ++ l ++ [10]))) r).2.1, (feedL (f { S with own := [] } (stripL (S.own ++ l ++ [10]))) r).2.2 + (l.length + 1))
  | [], S, r, hn, hf, _, hl => by
    have hd : dline S 10 = ({ S with own := [] }, some (stripL (S.own ++ [10]))) := by
      unfold dline
      rw [if_neg (by simp at hl ⊢; omega), if_neg (by simp)]
    have hs : dstep S 10 = (f { S with own := [] } (stripL (S.own ++ [10])), []) := by
      rw [hf S 10 rfl]; unfold onLine; rw [hd]
    rw [List.nil_append, feed_go hn hs]
    simp
  | c :: l, S, r, hn, hf, hc, hl => by
    have hd : dline S c = ({ S with own := S.own ++ [c] }, none) := by
      unfold dline
      rw [if_neg (by simp at hl ⊢; omega), if_pos (hc c (by simp))]
    have hs : dstep S c = ({ S with own := S.own ++ [c] }, []) := by
      rw [hf S c rfl]; unfold onLine; rw [hd]
    rw [List.cons_append, feed_go hn hs, feed_line f l { S with own := S.own ++ [c] } r hn (fun S1 c h => hf S1 c h) (fun x hx => hc x (by simp [hx])) (by simpa using hl)]
    simp
    omega
/-- a chunk's bytes -/
theorem feed_data : ∀ (p : List UInt8) (S : DS) (r : List UInt8), stopped S = false → S.st = 1 → S.left = p.length → p ≠ [] →
    feedL S (p ++ r) = ((feedL { S with left := 0, st := 2 } r).1, p ++ (feedL { S with left := 0, st := 2 } r).2.1, (feedL { S with left := 0, st := 2 } r).2.2 + p.length)
  | [], S, r, _, _, _, h => absurd rfl h
  | c :: p, S, r, hn, hst, hl, _ => by
    by_cases hp : p = []
    · subst hp
      simp at hl
      have hs : dstep S c = ({ S with left := 0, st := 2 }, [c]) := by
        rw [step1 c hst]; simp [hl]
      rw [List.cons_append, List.nil_append, feed_go hn hs]
      simp
    · have h0 : 0 < p.length := List.length_pos_iff.2 hp
      simp at hl
      have hs : dstep S c = ({ S with left := p.length, st := 1 }, [c]) := by
        rw [step1 c hst]; simp [hl, hp]
      rw [List.cons_append, feed_go hn hs, feed_data p { S with left := p.length, st := 1 } r hn rfl rfl hp]
      simp
      omega
theorem strip_crlf (l : List UInt8) : stripL (l ++ [13] ++ [10]) = l := by
  unfold stripL
  rw [List.dropLast_concat, List.getLast?_concat, if_pos rfl, List.dropLast_concat]
/-- one chunk -/
theorem feed_chunk (p : List UInt8) (m : Nat) (r : List UInt8) (h9 : p.length ≤ 300) (hm : m + p.length ≤ 1048576) (l0 : Nat) :
    ∃ l1, feedL ⟨0, l0, m, [], false, 0⟩ (chunkB p ++ r) = ((feedL ⟨0, l1, m + p.length, [], false, 0⟩ r).1, p ++ (feedL ⟨0, l1, m + p.length, [], false, 0⟩ r).2.1, (feedL ⟨0, l1, m + p.length, [], false, 0⟩ r).2.2 + (chunkB p).length) := by
  by_cases hp : p = []
  · subst hp
    exact ⟨l0, by simp [chunkB]⟩
  · have h0 : 0 < p.length := List.length_pos_iff.2 hp
    obtain ⟨f1, f2, f3, -⟩ := hex_facts p.length (by omega) h0
    refine ⟨0, ?_⟩
    have e : chunkB p ++ r = (hexC p.length ++ [13]) ++ 10 :: (p ++ ([13] ++ 10 :: r)) := by simp [chunkB, hp]
    rw [e, feed_line dsize (hexC p.length ++ [13]) ⟨0, l0, m, [], false, 0⟩ _ rfl (fun S1 c h => step0 c h) (by
      intro c hc
      rcases List.mem_append.1 hc with h | h
      · have := List.all_eq_true.1 f2 c h; simpa using this
      · simp at h; subst h; decide) (by simp; omega)]
    simp only [List.nil_append, strip_crlf]
    have hd : dsize ⟨0, l0, m, [], false, 0⟩ (hexC p.length) = ⟨1, p.length, m + p.length, [], false, 0⟩ := by
      unfold dsize
      rw [f1]
      simp only
      rw [if_neg (by omega), if_neg (by omega)]
    rw [hd, feed_data p ⟨1, p.length, m + p.length, [], false, 0⟩ _ rfl rfl rfl hp]
    simp only
    rw [feed_line dbehind [13] ⟨2, 0, m + p.length, [], false, 0⟩ r rfl (fun S1 c h => step2 c h) (by simp) (by simp)]
    simp only [List.nil_append]
    have hs : stripL ([13] ++ [10]) = [] := strip_crlf []
    rw [hs]
    have hb : dbehind ⟨2, 0, m + p.length, [], false, 0⟩ [] = ⟨0, 0, m + p.length, [], false, 0⟩ := by simp [dbehind]
    rw [hb]
    simp [chunkB, hp]
    omega
theorem feed_last (m l0 : Nat) : ∃ S', feedL ⟨0, l0, m, [], false, 0⟩ lastB = (S', [], 5) ∧ S'.done = true ∧ S'.e = 0 := by
  have e : lastB = [48, 13] ++ 10 :: ([13] ++ 10 :: []) := rfl
  rw [e, feed_line dsize [48, 13] ⟨0, l0, m, [], false, 0⟩ _ rfl (fun S1 c h => step0 c h) (by simp) (by simp)]
  have hs0 : stripL ([] ++ [48, 13] ++ [10]) = [48] := by decide
  have hd : dsize ⟨0, l0, m, [], false, 0⟩ [48] = ⟨3, l0, m, [], false, 0⟩ := by
    unfold dsize
    rw [show sizeL [48] = some 0 by decide]
    simp
  simp only [hs0, hd]
  rw [feed_line dfields [13] ⟨3, l0, m, [], false, 0⟩ [] rfl (fun S1 c h => step3 c h) (by simp) (by simp)]
  have hs1 : stripL ([] ++ [13] ++ [10]) = [] := by decide
  simp only [hs1]
  exact ⟨{ (⟨3, l0, m, [], false, 0⟩ : DS) with done := true }, by simp [dfields, feedL], rfl, rfl⟩
/-- all of them -/
def chunksB (ps : List (List UInt8)) : List UInt8 := (ps.map chunkB).flatten
theorem feed_chunks : ∀ (ps : List (List UInt8)) (m l0 : Nat) (more : List UInt8), (∀ p ∈ ps, p.length ≤ 300) → m + 300 * ps.length ≤ 1048576 →
    ∃ S', feedL ⟨0, l0, m, [], false, 0⟩ (chunksB ps ++ lastB ++ more) = (S', ps.flatten, (chunksB ps ++ lastB).length) ∧ S'.done = true ∧ S'.e = 0
  | [], m, l0, more, _, _ => by
    obtain ⟨S', h1, h2, h3⟩ := feed_last m l0
    refine ⟨S', ?_, h2, h3⟩
    show feedL _ (lastB ++ more) = _
    rw [feed_app, h1]
    simp only
    rw [feed_stop (stop_d h2)]
    rfl
  | p :: ps, m, l0, more, h9, hm => by
    simp only [List.length_cons] at hm
    have hp := h9 p (by simp)
    obtain ⟨l1, h1⟩ := feed_chunk p m (chunksB ps ++ lastB ++ more) hp (by omega) l0
    obtain ⟨S', h2, h3, h4⟩ := feed_chunks ps (m + p.length) l1 more (fun q hq => h9 q (by simp [hq])) (by omega)
    refine ⟨S', ?_, h3, h4⟩
    rw [h2] at h1
    have e : chunksB (p :: ps) ++ lastB ++ more = chunkB p ++ (chunksB ps ++ lastB ++ more) := by simp [chunksB]
    rw [e, h1]
    simp [chunksB]
    omega
/-- no error comes up on the way -/
theorem feed_pre {S S' S1 : DS} {O1 G : List UInt8} {n u : Nat} {b : List UInt8} (h : feedL S b = (S', G, n)) (he : S'.e = 0) (k : Nat) (h1 : feedL S (b.take k) = (S1, O1, u)) : S1.e = 0 := by
  by_cases hs : S1.e = 0
  · exact hs
  · have := feed_app (b.take k) S (b.drop k)
    rw [List.take_append_drop, h, h1] at this
    simp only at this
    rw [feed_stop (stop_e hs)] at this
    simp only [Prod.mk.injEq] at this
    rw [← this.1]
    exact he
theorem feed_two {S S1 S2 : DS} {G O : List UInt8} {b : List UInt8} {at_ k u : Nat} (h1 : feedL S (b.take at_) = (S1, G, at_)) (h2 : feedL S1 ((b.drop at_).take k) = (S2, O, u)) (hk : at_ + k ≤ b.length) : feedL S (b.take (at_ + u)) = (S2, G ++ O, at_ + u) := by
  have hu : u ≤ k := by
    have := feed_used ((b.drop at_).take k) S1
    rw [h2] at this
    simp at this
    omega
  have h3 : feedL S1 ((b.drop at_).take u) = (S2, O, u) := by
    have := feed_cut ((b.drop at_).take k) S1
    rw [h2] at this
    simp only [List.take_take, Nat.min_eq_left hu] at this
    exact this
  have e : b.take (at_ + u) = b.take at_ ++ (b.drop at_).take u := by
    rw [List.take_add]
  rw [e, feed_app, h1]
  simp only
  rw [h3]
#print axioms feed_chunks
#print axioms feed_two
end Go.Proofs.YtibhnkkfaochhaaDoor.Dec
