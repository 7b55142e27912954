/-
  Layer 16, as plain data: Append's writes, one behind the other.
-/
import Derived.Test.YtefcinifaaablaaChainMore
namespace Go.Proofs.Ytefcinifaaablaa.Chain
open Go.RowKit Go.Sep
open Go.Proofs.Ytefcinifaaablaa.Slab (szOf szN szN_val clsFor ABlk allocA dropA dropB holdA writeA readA liveA freeA setA blkA rightA zeros Took)
open Go.Proofs.Ytefcinifaaablaa.Ref15 (WfA WfB ar_wf setA_len setA_row setA_get blkA_in blkA_cases)
set_option maxRecDepth 100000
set_option linter.unusedVariables false
set_option linter.unusedSimpArgs false

theorem cat_append (A : List (List ABlk)) (l k : List Hd) : cat A (l ++ k) = cat A l ++ cat A k := by simp [cat]
theorem cat_one (A : List (List ABlk)) (h : Hd) : cat A [h] = blkB A h := by simp [cat]
theorem cat_keep {A A' : List (List ABlk)} {l : List Hd} (h : ∀ g ∈ l, blkB A' g = blkB A g) : cat A' l = cat A l := by
  induction l with
  | nil => rfl
  | cons x l ih =>
    show blkB A' x ++ cat A' l = blkB A x ++ cat A l
    rw [h x (List.mem_cons_self ..), ih fun g hg => h g (List.mem_cons_of_mem _ hg)]
/-- where the fill stands -/
structure Fil (A0 : List (List ABlk)) (B bs : List Int) (l : List Hd) (out : Hd → Prop) (s : Fs) : Prop where
  wf : WfA s.A
  rt : ∀ h ∈ l, Rt s.A h
  le : s.at_ ≤ bs.length
  ct : (cat s.A l).take (B.length + s.at_) = B ++ bs.take s.at_
  fit : B.length + s.at_ ≤ (cat s.A l).length
  ful : s.at_ < bs.length → (cat s.A l).length = B.length + s.at_
  kp : ∀ g, Rt A0 g → out g → Keep A0 s.A g
theorem Fil.step {A0 : List (List ABlk)} {B bs : List Int} {l : List Hd} {out : Hd → Prop} {s : Fs} (F : Fil A0 B bs l out s) (hb8 : ∀ v ∈ bs, 0 ≤ v ∧ v < 256) {h : Hd} (R : Rt s.A h) (ho : ∀ g ∈ l, other g h) (hout : ∀ g, Rt A0 g → out g → other g h) :
    Fil A0 B bs (l ++ [h]) out (fillS bs s h) ∧ ∀ g, Rt s.A g → other g h → Keep s.A (fillS bs s h).A g := by
  obtain ⟨A, t⟩ := s
  have hle := F.le
  have hct := F.ct
  have hfit := F.fit
  have hful := F.ful
  simp only at hle hct hfit hful R
  have Fw : WfA A := F.wf
  have Frt : ∀ h ∈ l, Rt A h := F.rt
  obtain ⟨-, -, hz, h9, -⟩ := R.get Fw
  have hzn : (szOf h.1).toNat = (blkB A h).length := by omega
  have hpl : ((bs.drop t).take (min bs.length (t + (blkB A h).length) - t)).length = min bs.length (t + (blkB A h).length) - t := by simp; omega
  obtain ⟨w1, r1, b1, k1⟩ := put_in Fw R 0 0 rfl ((bs.drop t).take (min bs.length (t + (blkB A h).length) - t)) (by rw [hpl]; omega) (fun v hv => hb8 v (List.mem_of_mem_drop (List.mem_of_mem_take hv)))
  have eS : fillS bs ⟨A, t⟩ h = ⟨putH A h 0 ((bs.drop t).take (min bs.length (t + (blkB A h).length) - t)), min bs.length (t + (blkB A h).length)⟩ := by
    unfold fillS
    simp only [hzn]
  rw [eS]
  have ec : cat (putH A h 0 ((bs.drop t).take (min bs.length (t + (blkB A h).length) - t))) (l ++ [h]) = cat A l ++ ((bs.drop t).take (min bs.length (t + (blkB A h).length) - t) ++ (blkB A h).drop (min bs.length (t + (blkB A h).length) - t)) := by
    rw [cat_append, cat_one, b1, cat_keep (A := A) (l := l) fun g hg => (k1 g (Frt g hg) (ho g hg)).2]
    rw [hpl, List.take_zero, List.nil_append, Nat.zero_add]
  refine ⟨⟨w1, fun g hg => ?_, by show min _ _ ≤ _; omega, ?_, ?_, fun hlt => ?_, fun g Rg og => (F.kp g Rg og).trans (k1 g (F.kp g Rg og).1 (hout g Rg og))⟩, k1⟩
  · rcases List.mem_append.1 hg with hg | hg
    · exact (k1 g (Frt g hg) (ho g hg)).1
    · rw [List.mem_singleton.1 hg]; exact r1
  · show (cat (putH A h 0 _) (l ++ [h])).take (B.length + min bs.length (t + (blkB A h).length)) = B ++ bs.take (min bs.length (t + (blkB A h).length))
    rw [ec]
    by_cases htl : t < bs.length
    · have hL := hful htl
      have e1 : cat A l = B ++ bs.take t := by rw [← hct, List.take_of_length_le (by omega)]
      have e2 : B.length + min bs.length (t + (blkB A h).length) - (B.length + t) = min bs.length (t + (blkB A h).length) - t := by omega
      rw [List.take_append, List.take_of_length_le (l := cat A l) (by omega), hL, e2, List.take_left' hpl, e1, List.append_assoc]
      congr 1
      have e3 : bs.take (min bs.length (t + (blkB A h).length)) = bs.take (t + (min bs.length (t + (blkB A h).length) - t)) := by congr 1; omega
      rw [e3, List.take_add]
    · have e4 : min bs.length (t + (blkB A h).length) = t := by omega
      rw [e4, List.take_append_of_le_length (by omega), hct]
  · show _ ≤ (cat (putH A h 0 _) (l ++ [h])).length
    rw [ec]
    simp only [List.length_append, hpl, List.length_drop]
    by_cases htl : t < bs.length
    · have := hful htl; omega
    · omega
  · show (cat (putH A h 0 _) (l ++ [h])).length = _
    have hlt : min bs.length (t + (blkB A h).length) < bs.length := hlt
    have := hful (by omega)
    rw [ec]
    simp only [List.length_append, hpl, List.length_drop]
    show _ = B.length + min bs.length (t + (blkB A h).length)
    omega
theorem fill_at (bs : List Int) : ∀ (l : List Hd) (s : Fs), (∀ h ∈ l, ∃ j : Nat, j < 4 ∧ h.1 = j) → s.at_ ≤ bs.length → ((fillL bs s l).at_ : Int) = min (bs.length : Int) (s.at_ + sizes l)
  | [], s, _, hs => by show (s.at_ : Int) = _; rw [sizes_nil]; omega
  | h :: l, s, hl, hs => by
    obtain ⟨j, hj, e⟩ := hl h (List.mem_cons_self ..)
    have h1 := szOf_64 j hj
    have ih := fill_at bs l (fillS bs s h) (fun g hg => hl g (List.mem_cons_of_mem _ hg)) (by show min _ _ ≤ _; omega)
    have e2 : sizes (h :: l) = szOf h.1 + sizes l := by simp [sizes]
    have h2 := (sizes_le l fun g hg => hl g (List.mem_cons_of_mem _ hg)).1
    show ((fillL bs (fillS bs s h) l).at_ : Int) = _
    rw [ih, e2, e]
    show min (bs.length : Int) ((min bs.length (s.at_ + (szOf h.1).toNat) : Nat) + sizes l) = _
    rw [e]
    omega
theorem Fil.all {A0 : List (List ABlk)} {B bs : List Int} {out : Hd → Prop} (hb8 : ∀ v ∈ bs, 0 ≤ v ∧ v < 256) : ∀ (k : List Hd) (l : List Hd) (s : Fs), Fil A0 B bs l out s → (∀ h ∈ k, Rt s.A h) → k.Pairwise (fun g h => other g h) → (∀ h ∈ k, ∀ g ∈ l, other g h) → (∀ h ∈ k, ∀ g, Rt A0 g → out g → other g h) →
    Fil A0 B bs (l ++ k) out (fillL bs s k)
  | [], l, s, F, _, _, _, _ => by simpa [fillL] using F
  | h :: k, l, s, F, hr, hp, ho, hout => by
    have pw := List.pairwise_cons.1 hp
    obtain ⟨F1, k1⟩ := F.step hb8 (hr h (List.mem_cons_self ..)) (ho h (List.mem_cons_self ..)) (hout h (List.mem_cons_self ..))
    have := Fil.all hb8 k (l ++ [h]) (fillS bs s h) F1 (fun g hg => (k1 g (hr g (List.mem_cons_of_mem _ hg)) (fun ⟨q1, q2⟩ => pw.1 g hg ⟨q1.symm, q2.symm⟩)).1) pw.2 (fun x hx g hg => ?_) (fun x hx => hout x (List.mem_cons_of_mem _ hx))
    · simpa [fillL] using this
    · rcases List.mem_append.1 hg with hg | hg
      · exact ho x (List.mem_cons_of_mem _ hx) g hg
      · rw [List.mem_singleton.1 hg]; exact pw.1 x hx
/-- a chain against its bytes -/
structure Cont (A : List (List ABlk)) (K : Ch) (B : List Int) : Prop where
  rt : ∀ h ∈ K.l, Rt A h
  pw : K.l.Pairwise fun g h => other g h
  lg : K.long = B.length
  cg : K.charge = sizes K.l
  ct : (cat A K.l).take B.length = B
  last : ∀ h, K.l.getLast? = some h → K.charge - K.long ≤ szOf h.1
theorem Cont.keep {A A' : List (List ABlk)} {K : Ch} {B : List Int} (C : Cont A K B) (h : ∀ g ∈ K.l, Keep A A' g) : Cont A' K B :=
  ⟨fun g hg => (h g hg).1, C.pw, C.lg, C.cg, by rw [cat_keep fun g hg => (h g hg).2]; exact C.ct, C.last⟩
/-- Append, where room is found -/
theorem append_cont {A : List (List ABlk)} {K : Ch} {B bs : List Int} (W : WfA A) (O : OkC K) (C : Cont A K B) (hb8 : ∀ v ∈ bs, 0 ≤ v ∧ v < 256) {A1 : List (List ABlk)} {l : List Hd} (e : roomA A ((bs.length : Int) - (K.charge - K.long)) = ⟨A1, l, 0⟩) :
    WfA (fillL bs (lastS A1 K bs) l).A ∧ Cont (fillL bs (lastS A1 K bs) l).A { K with l := K.l ++ l, charge := K.charge + sizes l, long := K.long + bs.length } (B ++ bs) ∧ (∀ g, Rt A g → (∀ h ∈ K.l, other g h) → Keep A (fillL bs (lastS A1 K bs) l).A g) ∧ (∀ g, Rt A g → ∀ h ∈ l, other g h) := by
  have c0 := O.c0
  have hlg := C.lg
  have hcg := C.cg
  have hcl := cat_len W K.l C.rt
  obtain ⟨A1', l', e1, w1, o1, -, -, n1, cls, -⟩ : ∃ A' l, roomA A ((bs.length : Int) - (K.charge - K.long)) = ⟨A', l, 0⟩ ∧ WfA A' ∧ Own A' l ∧ (∀ d, sh A' d = sh A d) ∧ (∀ d, d < 4 → lv A' d = lv A d + cnt l d) ∧ (bs.length : Int) - (K.charge - K.long) ≤ sizes l ∧ (∀ h ∈ l, ∃ j : Nat, j < 4 ∧ h.1 = j) ∧ ((bs.length : Int) - (K.charge - K.long) ≤ 0 → l = []) := by
    rcases roomA_two W ((bs.length : Int) - (K.charge - K.long)) with ⟨A', l, q⟩ | ⟨A', q, -⟩
    · exact ⟨A', l, q⟩
    · rw [q] at e; simp at e
  have RK : (∀ g, Rt A g → Keep A A1 g ∧ ∀ h ∈ l, other g h) ∧ (∀ h, l.getLast? = some h → sizes l - ((bs.length : Int) - (K.charge - K.long)) < szOf h.1) := by
    rcases roomF_keep ((bs.length : Int) - (K.charge - K.long)).toNat A ((bs.length : Int) - (K.charge - K.long)) [] W (Own.nil A) (by omega) with ⟨A', l2, q1, q2, q3⟩ | ⟨A', q1, -⟩
    · have q1 : roomA A ((bs.length : Int) - (K.charge - K.long)) = ⟨A', l2, 0⟩ := by simpa [roomA] using q1
      rw [e] at q1
      simp only [Room.mk.injEq, and_true] at q1
      obtain ⟨rfl, rfl⟩ := q1
      exact ⟨q2, q3⟩
    · have q1 : roomA A ((bs.length : Int) - (K.charge - K.long)) = ⟨A', [], 14⟩ := q1
      rw [e] at q1
      simp at q1
  rw [e] at e1
  simp only [Room.mk.injEq, and_true] at e1
  obtain ⟨rfl, rfl⟩ := e1
  obtain ⟨RK1, RK2⟩ := RK
  have C1 : Cont A1 K B := C.keep fun g hg => (RK1 g (C.rt g hg)).1
  -- the last block's room
  have hlast : Fil A B bs K.l (fun g => ∀ h ∈ K.l, other g h) (lastS A1 K bs) ∧ (∀ h ∈ l, Rt (lastS A1 K bs).A h) ∧ ((lastS A1 K bs).at_ : Int) = min (bs.length : Int) (K.charge - K.long) := by
    have hcl1 := cat_len w1 K.l C1.rt
    unfold lastS
    cases hg : K.l.getLast? with
    | none =>
      have hnil : K.l = [] := List.getLast?_eq_none_iff.1 hg
      have hB : B = [] := by
        have := O.nil hnil
        exact List.eq_nil_of_length_eq_zero (by omega)
      refine ⟨⟨w1, by rw [hnil]; intro h hh; simp at hh, Nat.zero_le _, by rw [hnil, hB]; simp [cat], by rw [hB]; simp, fun _ => by rw [hnil, hB]; simp [cat], fun g R _ => (RK1 g R).1⟩, fun h hh => (o1.tk h hh).rt, ?_⟩
      have := O.nil hnil
      rw [hB] at hlg
      simp at hlg
      show ((0 : Nat) : Int) = _
      omega
    | some h =>
      obtain ⟨l0, hl0⟩ : ∃ l0, K.l = l0 ++ [h] := by
        have := List.getLast?_eq_some_iff.1 hg
        exact this
      have hmem : h ∈ K.l := by rw [hl0]; simp
      have R := C1.rt h hmem
      obtain ⟨-, -, hz, h9, -⟩ := R.get w1
      have hle := C.last h hg
      obtain ⟨d, hd⟩ := Int.eq_ofNat_of_zero_le (show 0 ≤ K.charge - K.long by omega)
      simp only [hd, Int.toNat_natCast]
      have hc2 : cat A1 K.l = cat A1 l0 ++ blkB A1 h := by rw [hl0, cat_append, cat_one]
      have hll : (cat A1 l0).length + (blkB A1 h).length = B.length + d := by
        have : (cat A1 K.l).length = (cat A1 l0).length + (blkB A1 h).length := by rw [hc2, List.length_append]
        omega
      obtain ⟨w2, r2, b2, k2⟩ := put_in w1 R ((blkB A1 h).length - d) (szOf h.1 - (d : Nat)) (by omega) (bs.take (min bs.length d)) (by simp; omega) (fun v hv => hb8 v (List.mem_of_mem_take hv))
      have pw := C.pw
      rw [hl0, List.pairwise_append] at pw
      have ho : ∀ g ∈ l0, other g h := fun g hg => pw.2.2 g hg h (by simp)
      have ec : cat (putH A1 h (szOf h.1 - (d : Nat)) (bs.take (min bs.length d))) K.l = cat A1 l0 ++ ((blkB A1 h).take ((blkB A1 h).length - d) ++ bs.take (min bs.length d) ++ (blkB A1 h).drop ((blkB A1 h).length - d + min bs.length d)) := by
        rw [hl0, cat_append, cat_one, b2, cat_keep (A := A1) (l := l0) fun g hg => (k2 g (C1.rt g (by rw [hl0]; simp [hg])) (ho g hg)).2]
        simp
      have hct := C1.ct
      rw [hc2, List.take_append, List.take_of_length_le (by omega)] at hct
      refine ⟨⟨w2, fun g hg => ?_, by show min _ _ ≤ _; omega, ?_, ?_, fun hlt => ?_, fun g Rg og => (RK1 g Rg).1.trans (k2 g (RK1 g Rg).1.1 (og h hmem))⟩, fun x hx => (k2 x (o1.tk x hx).rt (fun ⟨q1, q2⟩ => (RK1 h (C.rt h hmem)).2 x hx ⟨q1.symm, q2.symm⟩)).1, by show ((min bs.length d : Nat) : Int) = _; omega⟩
      · by_cases e9 : g.1 = h.1 ∧ g.2.1 = h.2.1
        · have hg2 : g = h := by
            rw [hl0] at hg
            rcases List.mem_append.1 hg with q | q
            · exact absurd e9 (ho g q)
            · exact List.mem_singleton.1 q
          rw [hg2]; exact r2
        · exact (k2 g (C1.rt g hg) e9).1
      · show (cat (putH A1 h _ _) K.l).take (B.length + min bs.length d) = B ++ bs.take (min bs.length d)
        rw [ec, ← List.append_assoc, ← List.append_assoc, List.take_append_of_le_length (by simp; omega)]
        rw [List.take_of_length_le (by simp; omega)]
        congr 1
        rw [← hct]
        congr 2
        omega
      · show _ ≤ (cat (putH A1 h _ _) K.l).length
        rw [ec]
        simp
        omega
      · have hlt : min bs.length d < bs.length := hlt
        show (cat (putH A1 h _ _) K.l).length = B.length + min bs.length d
        rw [ec]
        simp
        omega
  obtain ⟨F0, r0, at0⟩ := hlast
  have FA := Fil.all hb8 l K.l (lastS A1 K bs) F0 r0 o1.pw (fun h hh g hg => (RK1 g (C.rt g hg)).2 h hh) (fun h hh g Rg _ => (RK1 g Rg).2 h hh)
  have hat := fill_at bs l (lastS A1 K bs) cls F0.le
  have hfull : (fillL bs (lastS A1 K bs) l).at_ = bs.length := by
    have hs0 := (sizes_le l cls).1
    rw [Int.min_def] at hat at0
    split at hat <;> split at at0 <;> omega
  refine ⟨FA.wf, ⟨FA.rt, ?_, by show K.long + _ = _; rw [List.length_append]; omega, by show K.charge + _ = sizes (K.l ++ l); rw [sizes_append]; omega, ?_, ?_⟩, FA.kp, fun g R => (RK1 g R).2⟩
  · rw [List.pairwise_append]
    exact ⟨C.pw, o1.pw, fun g hg h hh => (RK1 g (C.rt g hg)).2 h hh⟩
  · have := FA.ct
    rw [hfull, List.take_length] at this
    rw [List.length_append]
    exact this
  · intro h hh
    show K.charge + sizes l - (K.long + bs.length) ≤ szOf h.1
    have hh : (K.l ++ l).getLast? = some h := hh
    cases hl : l.getLast? with
    | none =>
      have hn : l = [] := List.getLast?_eq_none_iff.1 hl
      rw [hn, List.append_nil] at hh
      rw [hn, sizes_nil]
      have := C.last h hh
      omega
    | some h2 =>
      have : (K.l ++ l).getLast? = some h2 := by rw [List.getLast?_append, hl]; rfl
      rw [this] at hh
      simp at hh
      subst hh
      have := RK2 _ hl
      omega
#print axioms append_cont
end Go.Proofs.Ytefcinifaaablaa.Chain
