/-
  Layer 16, as plain data: what taking, letting go and writing do to the numbers of blocks in use.
-/
import Derived.Test.YtefcinifaaablaaChainDef
namespace Go.Proofs.Ytefcinifaaablaa.Chain
open Go.RowKit Go.Sep
open Go.Proofs.Ytefcinifaaablaa.Slab (szOf szN szN_val clsFor ABlk allocA dropA dropB writeA liveA freeA setA blkA rightA zeros Took)
open Go.Proofs.Ytefcinifaaablaa.Ref15 (WfA WfB ar_wf setA_len setA_row setA_get blkA_in blkA_cases)
set_option maxRecDepth 100000
set_option linter.unusedVariables false
set_option linter.unusedSimpArgs false

def sh (A : List (List ABlk)) (d : Nat) : Nat := (A.getD d []).length
def lv (A : List (List ABlk)) (d : Nat) : Nat := liveA A d
theorem sh_at {A : List (List ABlk)} {d : Nat} (h : d < A.length) : sh A d = A[d].length := by simp [sh, List.getD, h]
theorem sh_set {A : List (List ABlk)} {c i : Nat} {b : ABlk} (d : Nat) : sh (setA A c i b) d = sh A d := by
  by_cases h : d < A.length
  · rw [sh_at h, sh_at (by rw [setA_len]; exact h), setA_row _ h]
  · simp [sh, List.getD, setA, h]
theorem lv_le {A : List (List ABlk)} {d : Nat} (h : d < A.length) : lv A d ≤ sh A d := by
  unfold lv
  rw [live_row h, sh_at h]
  exact List.countP_le_length
/-- a handle of a block that is held once -/
def Tk (A : List (List ABlk)) (h : Hd) : Prop := ∃ (c i : Nat) (hc : c < A.length) (hi : i < A[c].length), h.1 = c ∧ h.2.1 = i ∧ A[c][i].held = 1 ∧ A[c][i].gen = h.2.2
def other (g h : Hd) : Prop := ¬ (g.1 = h.1 ∧ g.2.1 = h.2.1)
structure New (A A' : List (List ABlk)) (h : Hd) : Prop where
  wf : WfA A'
  sh : ∀ d, sh A' d = sh A d
  lv : ∀ d, d < 4 → lv A' d = lv A d + if h.1 = d then 1 else 0
  tk : Tk A' h
  ot : ∀ g, Tk A g → Tk A' g ∧ other g h
theorem tk_set {A : List (List ABlk)} {c i : Nat} {b : ABlk} {g : Hd} (h : Tk A g) (hn : ¬ (g.1 = c ∧ g.2.1 = i)) : Tk (setA A c i b) g := by
  obtain ⟨c2, i2, h1, h2, e1, e2, e3, e4⟩ := h
  refine ⟨c2, i2, by rw [setA_len]; exact h1, by rw [setA_row _ h1]; exact h2, e1, e2, ?_, ?_⟩
  all_goals
    rw [setA_get _ _ h1 h2, if_neg (by rw [e1, e2] at hn; omega)]
    assumption
theorem alloc_two {A : List (List ABlk)} (W : WfA A) {j : Nat} (hj : j < 4) :
    (∃ A' h, allocA A (szOf j) = ⟨A', h, 0⟩ ∧ h.1 = j ∧ New A A' h) ∨ (allocA A (szOf j) = ⟨A, (0, 0, 0), 14⟩ ∧ lv A j = sh A j) := by
  have hl : j < A.length := by rw [W.len]; exact hj
  by_cases hf : freeA A[j] < A[j].length
  · obtain ⟨i, hi, h0, e⟩ := alloc_free hl hj hf
    refine .inl ⟨_, _, e, rfl, ?_⟩
    have wb := W.at_ j i hl hi
    refine ⟨WfA.set W ⟨by show (0 : Int) ≤ 1; omega, by show (1 : Int) ≤ _; omega, wb.len, fun e => by (have e : (1 : Int) = 0 := e); omega, wb.byte⟩, fun d => sh_set d, fun d hd => ?_, ?_, fun g hg => ?_⟩
    · have := live_set (b := ⟨1, wrap64 (A[j][i].gen + 1), A[j][i].bytes⟩) hl hi d (by rw [W.len]; exact hd)
      rw [h0, if_neg (by omega)] at this
      unfold lv
      simp only [Nat.add_zero] at this
      rw [show (liveA (setA A (j : Int) (i : Int) ⟨1, wrap64 (A[j][i].gen + 1), A[j][i].bytes⟩) d) = _ from this]
      by_cases e9 : j = d
      · rw [if_pos ⟨e9, by show (0 : Int) < 1; omega⟩, if_pos (by show (j : Int) = d; omega)]
      · rw [if_neg (by omega), if_neg (by show ¬ (j : Int) = d; omega)]
    · refine ⟨j, i, by rw [setA_len]; exact hl, by rw [setA_row _ hl]; exact hi, rfl, rfl, ?_, ?_⟩
      all_goals rw [setA_get _ _ hl hi, if_pos ⟨rfl, rfl⟩]
    · have hne : ¬ (g.1 = j ∧ g.2.1 = i) := by
        rintro ⟨q1, q2⟩
        obtain ⟨c2, i2, h1, h2, e1, e2, e3, e4⟩ := hg
        obtain rfl : j = c2 := by omega
        obtain rfl : i = i2 := by omega
        omega
      exact ⟨tk_set hg hne, hne⟩
  · refine .inr ⟨alloc_full hl hj hf, ?_⟩
    unfold lv
    rw [live_row hl, sh_at hl, List.countP_eq_length]
    intro b hb
    obtain ⟨i, hi, rfl⟩ := List.getElem_of_mem hb
    have hno : ¬ ∃ x ∈ A[j], (x.held == 0) = true := fun ⟨x, hx, hx0⟩ => hf (List.findIdx_lt_length_of_exists ⟨x, hx, hx0⟩)
    have h1 : ¬ (A[j][i].held == 0) = true := fun e => hno ⟨_, List.getElem_mem _, e⟩
    have h0 := (W.at_ j i hl hi).lo
    simp at h1 ⊢
    omega
theorem takeN_two {A : List (List ABlk)} (W : WfA A) : ∀ j : Nat, j ≤ 4 →
    (∃ A' h, takeN j A = ⟨A', h, 0⟩ ∧ (∃ c : Nat, c < j ∧ h.1 = c ∧ ((j ≠ 0 ∧ lv A (j - 1) < sh A (j - 1)) → c = j - 1)) ∧ New A A' h) ∨ (takeN j A = ⟨A, (0, 0, 0), 14⟩ ∧ ∀ c, c < j → lv A c = sh A c)
  | 0, _ => .inr ⟨rfl, fun c h => by omega⟩
  | j + 1, hj => by
    unfold takeN
    rcases alloc_two W (show j < 4 by omega) with ⟨A', h, e, e1, N⟩ | ⟨e, e1⟩
    · rw [e, if_pos rfl]
      exact .inl ⟨A', h, rfl, ⟨j, by omega, e1, fun _ => by omega⟩, N⟩
    · rw [e, if_neg (by simp)]
      rcases takeN_two W j (by omega) with ⟨A', h, e2, ⟨c, h1, h2, h3⟩, N⟩ | ⟨e2, h1⟩
      · refine .inl ⟨A', h, e2, ⟨c, by omega, h2, fun ⟨_, q⟩ => ?_⟩, N⟩
        simp at q
        omega
      · refine .inr ⟨e2, fun c hc => ?_⟩
        by_cases e3 : c = j
        · rw [e3]; exact e1
        · exact h1 c (by omega)
theorem drop_tk {A : List (List ABlk)} (W : WfA A) {h : Hd} (T : Tk A h) :
    WfA (dropH A h) ∧ (∀ d, sh (dropH A h) d = sh A d) ∧ (∀ d, d < 4 → lv (dropH A h) d + (if h.1 = d then 1 else 0) = lv A d) ∧ ∀ g, Tk A g → other g h → Tk (dropH A h) g := by
  obtain ⟨c, i, hc, hi, e1, e2, e3, e4⟩ := T
  obtain ⟨h0, h1, h2⟩ := h
  simp only at e1 e2 e4
  subst e1
  subst e2
  have hr : rightA A c i h2 = true := by
    unfold rightA
    rw [blkA_in A c i hc hi]
    simp [e3, e4]
  have ed : dropH A ((c : Int), (i : Int), h2) = setA A c i (dropB A[c][i]) := by
    show (dropA A c i h2).A = _
    unfold dropA
    rw [if_pos hr, blkA_in A c i hc hi]
    rfl
  rw [ed]
  have wb := W.at_ c i hc hi
  have hz : WfB (szN c) (dropB A[c][i]) := by
    refine ⟨?_, ?_, ?_, ?_, ?_⟩
    · simp only [dropB]; omega
    · simp only [dropB]; omega
    · simp only [dropB]; rw [if_pos e3]; simp [zeros, wb.len]
    · intro _; simp only [dropB]; rw [if_pos e3, wb.len]
    · simp only [dropB]; rw [if_pos e3]; intro x hx; simp only [zeros] at hx; have := (List.mem_replicate.1 hx).2; omega
  refine ⟨WfA.set W hz, fun d => sh_set d, fun d hd => ?_, fun g hg ho => tk_set hg ho⟩
  have := live_set (b := dropB A[c][i]) hc hi d (by rw [W.len]; exact hd)
  have h0 : (dropB A[c][i]).held = 0 := by simp only [dropB]; omega
  rw [e3, h0] at this
  unfold lv
  by_cases e9 : c = d
  · rw [if_pos ⟨e9, by omega⟩, if_neg (by omega)] at this
    rw [if_pos (by show (c : Int) = d; omega)]; omega
  · rw [if_neg (by omega), if_neg (by omega)] at this
    rw [if_neg (by show ¬ (c : Int) = d; omega)]; omega
def cnt (l : List Hd) (d : Nat) : Nat := l.countP fun h => h.1 == (d : Int)
theorem cnt_cons (h : Hd) (l : List Hd) (d : Nat) : cnt (h :: l) d = cnt l d + if h.1 = d then 1 else 0 := by
  unfold cnt
  rw [List.countP_cons]
  simp
theorem cnt_snoc (h : Hd) (l : List Hd) (d : Nat) : cnt (l ++ [h]) d = cnt l d + if h.1 = d then 1 else 0 := by
  unfold cnt
  rw [List.countP_append, List.countP_cons]
  simp
/-- handles of blocks of their own -/
structure Own (A : List (List ABlk)) (l : List Hd) : Prop where
  tk : ∀ h ∈ l, Tk A h
  pw : l.Pairwise fun g h => other g h
theorem Own.nil (A : List (List ABlk)) : Own A [] := ⟨fun h hh => by simp at hh, List.Pairwise.nil⟩
theorem Own.snoc {A A' : List (List ABlk)} {l : List Hd} {h : Hd} (O : Own A l) (N : New A A' h) : Own A' (l ++ [h]) := by
  refine ⟨fun g hg => ?_, ?_⟩
  · rcases List.mem_append.1 hg with h1 | h1
    · exact (N.ot g (O.tk g h1)).1
    · rw [List.mem_singleton.1 h1]; exact N.tk
  · rw [List.pairwise_append]
    refine ⟨O.pw, List.pairwise_singleton _ _, fun g hg k hk => ?_⟩
    rw [List.mem_singleton.1 hk]
    exact (N.ot g (O.tk g hg)).2
theorem drops_own : ∀ (l : List Hd) (A : List (List ABlk)), WfA A → Own A l → WfA (dropsA A l) ∧ (∀ d, sh (dropsA A l) d = sh A d) ∧ ∀ d, d < 4 → lv (dropsA A l) d + cnt l d = lv A d
  | [], A, W, O => ⟨W, fun d => rfl, fun d _ => rfl⟩
  | h :: l, A, W, O => by
    obtain ⟨w1, s1, l1, t1⟩ := drop_tk W (O.tk h (List.mem_cons_self ..))
    have pw := List.pairwise_cons.1 O.pw
    have O2 : Own (dropH A h) l := ⟨fun g hg => t1 g (O.tk g (List.mem_cons_of_mem _ hg)) (fun ⟨q1, q2⟩ => pw.1 g hg ⟨q1.symm, q2.symm⟩), pw.2⟩
    obtain ⟨w2, s2, l2⟩ := drops_own l (dropH A h) w1 O2
    refine ⟨w2, fun d => (s2 d).trans (s1 d), fun d hd => ?_⟩
    have := l1 d hd
    have := l2 d hd
    show lv (dropsA (dropH A h) l) d + _ = _
    rw [cnt_cons]
    omega
theorem sizes_nil : sizes [] = 0 := rfl
theorem sizes_snoc (l : List Hd) (h : Hd) : sizes (l ++ [h]) = sizes l + szOf h.1 := by simp [sizes]
theorem sizes_append (l k : List Hd) : sizes (l ++ k) = sizes l + sizes k := by simp [sizes]
theorem sizes_cnt : ∀ (l : List Hd), (∀ h ∈ l, ∃ j : Nat, j < 4 ∧ h.1 = j) → sizes l = 64 * cnt l 0 + 256 * cnt l 1 + 1024 * cnt l 2 + 4096 * cnt l 3
  | [], _ => by simp [sizes, cnt]
  | h :: l, hl => by
    obtain ⟨j, hj, e⟩ := hl h (List.mem_cons_self ..)
    have ih := sizes_cnt l fun g hg => hl g (List.mem_cons_of_mem _ hg)
    have e2 : sizes (h :: l) = szOf j + sizes l := by simp [sizes, e]
    rw [e2, cnt_cons, cnt_cons, cnt_cons, cnt_cons, e, ih]
    have : j = 0 ∨ j = 1 ∨ j = 2 ∨ j = 3 := by omega
    rcases this with rfl | rfl | rfl | rfl <;> simp [szOf] <;> omega
/-- what room does -/
theorem roomF_two : ∀ (f : Nat) (A : List (List ABlk)) (n : Int) (l : List Hd), WfA A → Own A l → n ≤ f →
    (∃ A' l', roomF f A n l = ⟨A', l ++ l', 0⟩ ∧ WfA A' ∧ Own A' (l ++ l') ∧ (∀ d, sh A' d = sh A d) ∧ (∀ d, d < 4 → lv A' d = lv A d + cnt l' d) ∧ n ≤ sizes l' ∧ (∀ h ∈ l', ∃ j : Nat, j < 4 ∧ h.1 = j) ∧ (n ≤ 0 → l' = []))
    ∨ (∃ A', roomF f A n l = ⟨A', [], 14⟩ ∧ 0 < n ∧ WfA A' ∧ (∀ d, sh A' d = sh A d) ∧ ∀ d, d < 4 → lv A' d + cnt l d = lv A d)
  | 0, A, n, l, W, O, hn => by
    refine .inl ⟨A, [], by simp [roomF], W, by simpa using O, fun _ => rfl, fun d _ => by simp [cnt], by rw [sizes_nil]; omega, fun h hh => by simp at hh, fun _ => rfl⟩
  | f + 1, A, n, l, W, O, hn => by
    unfold roomF
    by_cases hp : 0 < n
    · rw [if_pos hp]
      have h3 := topC_le n
      rcases takeN_two W (topC n + 1) (by omega) with ⟨A', h, e, ⟨c, c1, c2, -⟩, N⟩ | ⟨e, -⟩
      · have e' : takeA A n = ⟨A', h, 0⟩ := e
        rw [e', if_pos rfl]
        have hs := szOf_64 c (by omega)
        simp only [c2]
        rcases roomF_two f A' (n - szOf c) (l ++ [h]) N.wf (O.snoc N) (by omega) with ⟨A2, l2, q1, q2, q3, q4, q5, q6, q7, -⟩ | ⟨A2, q1, q2, q3, q4, q5⟩
        · refine .inl ⟨A2, h :: l2, by rw [q1]; simp, q2, by simpa using q3, fun d => (q4 d).trans (N.sh d), fun d hd => ?_, ?_, fun g hg => ?_, fun h => by omega⟩
          · rw [q5 d hd, N.lv d hd, cnt_cons]; omega
          · have : sizes (h :: l2) = szOf c + sizes l2 := by simp [sizes, c2]
            omega
          · rcases List.mem_cons.1 hg with rfl | hg
            · exact ⟨c, by omega, c2⟩
            · exact q7 g hg
        · refine .inr ⟨A2, q1, hp, q3, fun d => (q4 d).trans (N.sh d), fun d hd => ?_⟩
          have := q5 d hd
          have := N.lv d hd
          rw [cnt_snoc] at *
          omega
      · have e' : takeA A n = ⟨A, (0, 0, 0), 14⟩ := e
        rw [e', if_neg (by simp)]
        obtain ⟨w1, s1, l1⟩ := drops_own l A W O
        exact .inr ⟨dropsA A l, rfl, hp, w1, s1, l1⟩
    · rw [if_neg hp]
      exact .inl ⟨A, [], by simp, W, by simpa using O, fun _ => rfl, fun d _ => by simp [cnt], by rw [sizes_nil]; omega, fun h hh => by simp at hh, fun _ => rfl⟩
theorem roomA_two {A : List (List ABlk)} (W : WfA A) (n : Int) :
    (∃ A' l, roomA A n = ⟨A', l, 0⟩ ∧ WfA A' ∧ Own A' l ∧ (∀ d, sh A' d = sh A d) ∧ (∀ d, d < 4 → lv A' d = lv A d + cnt l d) ∧ n ≤ sizes l ∧ (∀ h ∈ l, ∃ j : Nat, j < 4 ∧ h.1 = j) ∧ (n ≤ 0 → l = []))
    ∨ (∃ A', roomA A n = ⟨A', [], 14⟩ ∧ 0 < n ∧ WfA A' ∧ (∀ d, sh A' d = sh A d) ∧ ∀ d, d < 4 → lv A' d = lv A d) := by
  rcases roomF_two n.toNat A n [] W (Own.nil A) (by omega) with ⟨A', l, q⟩ | ⟨A', q1, q2, q3, q4, q5⟩
  · exact .inl ⟨A', l, by simpa [roomA] using q⟩
  · exact .inr ⟨A', q1, q2, q3, q4, fun d hd => by simpa [cnt] using q5 d hd⟩
theorem topC_fits (n : Int) (h : n ≤ 4096) : n ≤ szOf (topC n : Nat) := by
  unfold topC
  repeat' split
  all_goals simp [szOf]; omega
/-- where the best class has a free block, one block is enough -/
theorem roomA_one {A : List (List ABlk)} (W : WfA A) {n : Int} (h0 : 0 < n) (h9 : n ≤ 4096) (hf : lv A (topC n) < sh A (topC n)) :
    ∃ A' h, roomA A n = ⟨A', [h], 0⟩ ∧ h.1 = (topC n : Nat) ∧ New A A' h ∧ n ≤ szOf (topC n : Nat) := by
  have h3 := topC_le n
  have hfit := topC_fits n h9
  rcases takeN_two W (topC n + 1) (by omega) with ⟨A', h, e, ⟨c, c1, c2, c3⟩, N⟩ | ⟨e, e2⟩
  · have e' : takeA A n = ⟨A', h, 0⟩ := e
    have hc : c = topC n := by simpa using c3 ⟨by omega, by simpa using hf⟩
    subst hc
    refine ⟨A', h, ?_, c2, N, hfit⟩
    obtain ⟨f, hfn⟩ : ∃ f, n.toNat = f + 1 := ⟨n.toNat - 1, by omega⟩
    unfold roomA
    rw [hfn]
    unfold roomF
    rw [if_pos h0, e', if_pos rfl, c2]
    have hle : ¬ 0 < n - szOf (topC n : Nat) := by omega
    cases f with
    | zero => rfl
    | succ f => unfold roomF; rw [if_neg hle]; rfl
  · have := e2 (topC n) (by omega)
    omega
/-- writing changes no number -/
theorem put_same {A : List (List ABlk)} (h : Hd) (at_ : Int) (bs : List Int) : (putH A h at_ bs).length = A.length ∧ (∀ d, sh (putH A h at_ bs) d = sh A d) ∧ ∀ d, d < A.length → lv (putH A h at_ bs) d = lv A d := by
  obtain ⟨h0, h1, h2⟩ := h
  show (writeA A h0 h1 h2 at_ bs).A.length = _ ∧ (∀ d, sh (writeA A h0 h1 h2 at_ bs).A d = _) ∧ ∀ d, _ → lv (writeA A h0 h1 h2 at_ bs).A d = _
  unfold writeA
  split
  · rename_i hr
    rcases blkA_cases A h0 h1 with ⟨e, -⟩ | ⟨c, i, hc, hi, rfl, rfl⟩
    · unfold rightA at hr; rw [e] at hr; simp at hr
    · rw [blkA_in A c i hc hi]
      simp only [Option.getD_some]
      split
      · exact ⟨rfl, fun _ => rfl, fun _ _ => rfl⟩
      · refine ⟨setA_len, fun d => sh_set d, fun d hd => ?_⟩
        have := live_set (b := { A[c][i] with bytes := A[c][i].bytes.take at_.toNat ++ bs ++ A[c][i].bytes.drop (at_.toNat + bs.length) }) hc hi d hd
        simp only at this
        have e2 := Nat.add_right_cancel this
        exact e2
  · exact ⟨rfl, fun _ => rfl, fun _ _ => rfl⟩
theorem fill_same (bs : List Int) : ∀ (l : List Hd) (s : Fs), (fillL bs s l).A.length = s.A.length ∧ (∀ d, sh (fillL bs s l).A d = sh s.A d) ∧ ∀ d, d < s.A.length → lv (fillL bs s l).A d = lv s.A d
  | [], s => ⟨rfl, fun _ => rfl, fun _ _ => rfl⟩
  | h :: l, s => by
    obtain ⟨p1, p2, p3⟩ := put_same (A := s.A) h 0 ((bs.drop s.at_).take (min bs.length (s.at_ + (szOf h.1).toNat) - s.at_))
    obtain ⟨q1, q2, q3⟩ := fill_same bs l (fillS bs s h)
    exact ⟨q1.trans p1, fun d => (q2 d).trans (p2 d), fun d hd => (q3 d (by show d < (putH _ _ _ _).length; omega)).trans (p3 d hd)⟩
theorem last_same (A : List (List ABlk)) (K : Ch) (bs : List Int) : (lastS A K bs).A.length = A.length ∧ (∀ d, sh (lastS A K bs).A d = sh A d) ∧ ∀ d, d < A.length → lv (lastS A K bs).A d = lv A d := by
  unfold lastS
  split
  · exact ⟨rfl, fun _ => rfl, fun _ _ => rfl⟩
  · exact put_same _ _ _
theorem append_same (A : List (List ABlk)) (K : Ch) (bs : List Int) (l : List Hd) : (∀ d, sh (fillL bs (lastS A K bs) l).A d = sh A d) ∧ ∀ d, d < A.length → lv (fillL bs (lastS A K bs) l).A d = lv A d := by
  obtain ⟨p1, p2, p3⟩ := last_same A K bs
  obtain ⟨q1, q2, q3⟩ := fill_same bs l (lastS A K bs)
  exact ⟨fun d => (q2 d).trans (p2 d), fun d hd => (q3 d (by omega)).trans (p3 d hd)⟩

/-- an arena of so many blocks of each class, and a chain of few blocks -/
structure Inv (s : Nat) (A : List (List ABlk)) (K : Ch) (i : Nat) : Prop where
  ok : OkC K
  fr : K.freed = false
  sd : K.shared = false
  n : K.l.length ≤ i
  lg : K.long ≤ 4095 * i
  sh : ∀ d, d < 4 → sh A d = s
  lv : ∀ d, d < 4 → lv A d ≤ i
theorem OkC.more {K : Ch} (k : OkC K) {l : List Hd} {n : Nat} (hl : ∀ h ∈ l, ∃ j : Nat, j < 4 ∧ h.1 = j) (h1 : K.long + n ≤ 1048576) (h2 : (n : Int) - (K.charge - K.long) ≤ sizes l) (h3 : sizes l ≤ (n : Int) - (K.charge - K.long) + 4096 ∨ l = []) (h4 : K.l.length + l.length ≤ 20000) (h5 : 0 < n → l = [] → (n : Int) ≤ K.charge - K.long) :
    OkC { K with l := K.l ++ l, charge := K.charge + sizes l, long := K.long + n } := by
  have a1 := k.l0
  have a2 := k.c0
  have a3 := k.c1
  refine ⟨by show 0 ≤ K.long + n; omega, h1, by show K.long + n ≤ K.charge + sizes l; omega, ?_, by show (K.l ++ l).length ≤ _; rw [List.length_append]; exact h4, ?_, ?_⟩
  · show K.charge + sizes l ≤ K.long + n + 4096
    rcases h3 with h3 | rfl
    · omega
    · rw [sizes_nil]; omega
  · intro hn
    have hn : K.l ++ l = [] := hn
    obtain ⟨e1, e2⟩ := List.append_eq_nil_iff.1 hn
    show K.charge + sizes l = 0
    rw [k.nil e1, e2]; rfl
  · intro h hh
    rcases List.mem_append.1 hh with q | q
    · exact k.cls h q
    · exact hl h q
/-- one Append where each class has a free block -/
theorem app_one {s : Nat} {A : List (List ABlk)} {K : Ch} {i : Nat} (W : WfA A) (I : Inv s A K i) (hi : i < s) (hi2 : i < 256) (bs : List Int) (hb : bs.length ≤ 4095) :
    ∃ A' K', appA A K bs = ⟨A', K', 0⟩ ∧ Inv s A' K' (i + 1) ∧ K'.long = K.long + bs.length ∧ ((K'.charge = K.charge ∧ K'.l = K.l ∧ bs.length ≤ K.charge - K.long) ∨ ∃ j : Nat, j < 4 ∧ K'.charge = K.charge + szOf j ∧ 0 < bs.length ∧ (bs.length : Int) - (K.charge - K.long) ≤ szOf j) := by
  have k1 := I.ok.l0
  have k2 := I.ok.c0
  have k3 := I.ok.c1
  have k4 := I.lg
  have hL : A.length = 4 := W.len
  unfold appA
  rw [if_neg (by rw [I.fr]; simp), if_neg (by rw [I.sd]; simp), if_neg (by omega)]
  by_cases hn : (bs.length : Int) - (K.charge - K.long) ≤ 0
  · have e : roomA A ((bs.length : Int) - (K.charge - K.long)) = ⟨A, [], 0⟩ := by
      unfold roomA
      rw [show ((bs.length : Int) - (K.charge - K.long)).toNat = 0 by omega]; rfl
    rw [e, if_pos rfl]
    obtain ⟨p1, p2⟩ := append_same A K bs []
    refine ⟨_, _, rfl, ⟨I.ok.more (l := []) (fun h hh => by simp at hh) (by omega) (by rw [sizes_nil]; omega) (.inr rfl) (by have := I.ok.n; simpa using this) (fun _ _ => by omega), I.fr, I.sd, by show (K.l ++ []).length ≤ _; simp; have := I.n; omega, by show K.long + _ ≤ _; omega, fun d hd => (p1 d).trans (I.sh d hd), fun d hd => by rw [p2 d (by omega)]; have := I.lv d hd; omega⟩, rfl, .inl ⟨by show K.charge + sizes [] = _; rw [sizes_nil]; omega, by simp, by omega⟩⟩
  · have h3 := topC_le ((bs.length : Int) - (K.charge - K.long))
    obtain ⟨A', h, e, e1, N, hfit⟩ := roomA_one W (n := (bs.length : Int) - (K.charge - K.long)) (by omega) (by omega) (by have := I.sh (topC ((bs.length : Int) - (K.charge - K.long))) (by omega); have := I.lv (topC ((bs.length : Int) - (K.charge - K.long))) (by omega); omega)
    generalize topC ((bs.length : Int) - (K.charge - K.long)) = j at h3 e1 hfit
    rw [e, if_pos rfl]
    obtain ⟨p1, p2⟩ := append_same A' K bs [h]
    have hs := szOf_64 j (by omega)
    have es : sizes [h] = szOf j := by simp [sizes, e1]
    have hAl : A'.length = 4 := N.wf.len
    have hcls : ∀ g ∈ [h], ∃ j : Nat, j < 4 ∧ g.1 = j := fun g hg => by rw [List.mem_singleton.1 hg]; exact ⟨j, by omega, e1⟩
    refine ⟨_, _, rfl, ⟨I.ok.more (l := [h]) hcls (by omega) (by rw [es]; omega) (.inl (by rw [es]; omega)) (by have := I.n; simp; omega) (fun _ q => by simp at q), I.fr, I.sd, by show (K.l ++ [h]).length ≤ _; simp; exact I.n, by show K.long + _ ≤ _; omega, fun d hd => ((p1 d).trans (N.sh d)).trans (I.sh d hd), fun d hd => ?_⟩, rfl, .inr ⟨j, by omega, by show K.charge + sizes [h] = _; rw [es], by omega, hfit⟩⟩
    rw [p2 d (by omega), N.lv d hd]
    have := I.lv d hd
    split <;> omega
#print axioms app_one
end Go.Proofs.Ytefcinifaaablaa.Chain
