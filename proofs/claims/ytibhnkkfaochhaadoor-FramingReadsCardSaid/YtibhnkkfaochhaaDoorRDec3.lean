/-
  FramingReads: the document's decoder in memory; a line that ended; End; New.
-/
import Derived.Test.YtibhnkkfaochhaaDoorRDec2
namespace Go.Proofs.YtibhnkkfaochhaaDoor.Dec
open Go.RowKit Go.Sep
open Go.Proofs.YtibhnkkfaochhaaDoor.Tok
set_option maxRecDepth 100000
set_option linter.unusedVariables false
set_option linter.unusedSimpArgs false

def cR (K L M p : Nat) (own : List UInt8) (dn : Bool) (e : Nat) : Array Value := #[.int .i64 K, .int .i64 L, .int .i64 M, .int .i64 p, .string (sb own), .bool dn, .int .i64 e]
def RelK (K L M p : Nat) (own : List UInt8) (S : DS) : Prop := stopped S = true ∨ (K = 3 ∧ S.st = 5 ∧ M = S.sum) ∨ (K = 1 ∧ p = 0 ∧ S.st = 4 ∧ L = S.left) ∨ (K = 2 ∧ p = S.st ∧ S.st ≤ 3 ∧ M = S.sum ∧ own = S.own ∧ (p = 1 → L = S.left))
def refA (d K : Nat) (S : DS) : Asr := ex fun q : Nat × Nat × Nat × List UInt8 => pur (RelK K q.1 q.2.1 q.2.2.1 q.2.2.2 S) * pts d (.cells (cR K q.1 q.2.1 q.2.2.1 q.2.2.2 S.done S.e) 52 (0, 0))
theorem ref_open {d K : Nat} {S : DS} {F : Asr} {w : World} (h : Holds w (refA d K S * F)) : ∃ L M p own, RelK K L M p own S ∧ Holds w (pts d (.cells (cR K L M p own S.done S.e) 52 (0, 0)) * F) := by
  unfold refA at h
  rw [ex_star] at h
  obtain ⟨q, h⟩ := holds_ex.1 h
  rw [star_assoc] at h
  obtain ⟨h1, h2⟩ := holds_pur.1 h
  exact ⟨_, _, _, _, h1, h2⟩
theorem ref_shut {d K L M p : Nat} {own : List UInt8} {S : DS} {F : Asr} {w : World} (hr : RelK K L M p own S) (h : Holds w (pts d (.cells (cR K L M p own S.done S.e) 52 (0, 0)) * F)) : Holds w (refA d K S * F) := by
  unfold refA
  rw [ex_star]
  refine holds_ex.2 ⟨(L, M, p, own), ?_⟩
  rw [star_assoc]
  exact holds_pur.2 ⟨hr, h⟩
structure RefF (w : World) (d K L M p : Nat) (own : List UInt8) (dn : Bool) (e : Nat) : Prop where
  c0 : w.cell? ⟨d, 0, none⟩ = some (.int .i64 K)
  c1 : w.cell? ⟨d, 1, none⟩ = some (.int .i64 L)
  c2 : w.cell? ⟨d, 2, none⟩ = some (.int .i64 M)
  c3 : w.cell? ⟨d, 3, none⟩ = some (.int .i64 p)
  c4 : w.cell? ⟨d, 4, none⟩ = some (.string (sb own))
  c5 : w.cell? ⟨d, 5, none⟩ = some (.bool dn)
  c6 : w.cell? ⟨d, 6, none⟩ = some (.int .i64 e)
  fz : ∀ o, w.frozen? ⟨d, o, none⟩ = false
  lt : d < w.heap.size
theorem ref_f {d K L M p : Nat} {own : List UInt8} {dn : Bool} {e : Nat} {F : Asr} {w : World} (h : Holds w (pts d (.cells (cR K L M p own dn e) 52 (0, 0)) * F)) : RefF w d K L M p own dn e := by
  have c := h.cell
  have c0 := c 0
  have c1 := c 1
  have c2 := c 2
  have c3 := c 3
  have c4 := c 4
  have c5 := c 5
  have c6 := c 6
  simp [cR] at c0 c1 c2 c3 c4 c5 c6
  exact ⟨c0, c1, c2, c3, c4, c5, c6, h.frozen, h.lt⟩
def dend (S : DS) (s : List UInt8) : DS := if S.st = 0 then dsize S s else if S.st = 2 then dbehind S s else dfields S s
def RStepC (d K : Nat) (S' : DS) (F : Asr) (w : World) (e : Ending) (w' : World) : Prop := e = .returned (.tuple #[]) ∧ Holds w' (refA d K S' * F) ∧ Sm w w'
theorem emp_s (s : List UInt8) : ((sb s).toList == []) = decide (s = []) ∧ ((sb s).toList != []) = decide (s ≠ []) := by
  rw [Go.Lib.toList_data, show (sb s).data.toList = s from bl_sb s]
  cases s <;> simp
set_option maxHeartbeats 4000000 in
theorem ended_calls (d L : Nat) (S : DS) (s : List UInt8) (hs : s.length ≤ 1048576) (hst : S.st = 0 ∨ S.st = 2 ∨ S.st = 3) (hown : S.own = []) (hd : S.done = false) (he : S.e = 0) (hsum : S.sum ≤ 1048576) (F : Asr) (w : World)
    (hw : Holds w (pts d (.cells (cR 2 L S.sum S.st [] false 0) 52 (0, 0)) * F)) :
    Calls Tryd.prog 22 #[.pointer (some ⟨d, 0, none⟩), .string (sb s)] w (RStepC d 2 (dend S s) F w) := by
  obtain ⟨st, left, sum, own, done, e⟩ := S
  simp only at hst hown hd he hsum hw
  subst hown hd he
  rcases hst with rfl | rfl | rfl
  · have SC := Lib.hid (fun wq => rsize_calls (sb s) (by rw [sb_size]; exact hs) wq)
    rw [bl_sb] at SC
    have hR : dend ⟨0, left, sum, [], false, 0⟩ s = dsize ⟨0, left, sum, [], false, 0⟩ s := rfl
    rw [hR]
    unfold dsize
    simp only
    have hlt : ∀ n, sizeL s = some n → n < 4294967296 := fun n h => sizeL_lt h
    obtain ⟨r, hr⟩ : ∃ q, sizeL s = q := ⟨_, rfl⟩
    rw [hr] at SC hlt ⊢
    have f1 := ref_f hw
    have c3 := f1.c3
    have HW := Lib.hid hw
    clear hr hR hw f1
    cases r with
    | none =>
      go_enter Tryd.func22, Tryd.ntmps22
      go_wp2_with fail
      refine (SC.out _).mono ?_
      rintro e w1 ⟨rfl, b1⟩
      have h2 := HW.out.grow b1
      obtain ⟨k0, k1, k2, k3, k4, k5, k6, kf, kl⟩ := ref_f h2
      have H2 := Lib.hid h2
      have S2 := Lib.hid (Sm.of_below b1)
      clear b1 h2 SC HW
      go_wp2_with fail
      refine bodyPost_ret (v := .tuple #[]) (by simp [results, Tryd.results22, go_sem]) rfl ?_
      exact ⟨rfl, ref_shut (S := ⟨0, left, sum, [], false, 32⟩) (.inl rfl) (H2.out.store 6 (.int .i64 32)), S2.out.setCell _ _⟩
    | some n =>
      have hn := hlt n rfl
      clear hlt
      have z1 : sizeZ (some n) = (n : Int) := rfl
      have SC2 : Hid (∀ wq, Calls Tryd.prog 28 #[.string (sb s)] wq fun e w' => e = .returned (.int .i64 (n : Int)) ∧ Below wq.heap.size wq w') := SC.out
      clear SC z1
      have t1 : decide ((n : Int) < 0) = false := decide_eq_false (by omega)
      have a1 : IntKind.i64.wrap ((sum : Int) + (n : Int)) = ((sum + n : Nat) : Int) := by rw [IntWalk.i64_in _ (by omega)]; omega
      dsimp only
      by_cases hb : 1048576 - sum < n
      · rw [if_pos hb]
        have t2 : decide ((1048576 : Int) < ((sum + n : Nat) : Int)) = true := decide_eq_true (by omega)
        have t2' : decide (1048576 < sum + n) = true := decide_eq_true (by omega)
        have t2'' : decide ((1048576 : Int) < (sum : Int) + (n : Int)) = true := decide_eq_true (by omega)
        clear hb
        go_enter Tryd.func22, Tryd.ntmps22
        go_wp2_with fail
        refine (SC2.out _).mono ?_
        rintro e w1 ⟨rfl, b1⟩
        have h2 := HW.out.grow b1
        obtain ⟨k0, k1, k2, k3, k4, k5, k6, kf, kl⟩ := ref_f h2
        have H2 := Lib.hid h2
        have S2 := Lib.hid (Sm.of_below b1)
        clear b1 h2 SC2 HW
        go_wp2_with fail
        refine bodyPost_ret (v := .tuple #[]) (by simp [results, Tryd.results22, go_sem]) rfl ?_
        exact ⟨rfl, ref_shut (S := ⟨0, left, sum, [], false, 3⟩) (.inl rfl) (H2.out.store 6 (.int .i64 3)), S2.out.setCell _ _⟩
      · rw [if_neg hb]
        have t2 : decide ((1048576 : Int) < ((sum + n : Nat) : Int)) = false := decide_eq_false (by omega)
        have t2' : decide (1048576 < sum + n) = false := decide_eq_false (by omega)
        have t2'' : decide ((1048576 : Int) < (sum : Int) + (n : Int)) = false := decide_eq_false (by omega)
        clear hb
        by_cases hz : n = 0
        · rw [if_pos hz]
          subst hz
          go_enter Tryd.func22, Tryd.ntmps22
          go_wp2_with fail
          refine (SC2.out _).mono ?_
          rintro e w1 ⟨rfl, b1⟩
          have h2 := HW.out.grow b1
          obtain ⟨k0, k1, k2, k3, k4, k5, k6, kf, kl⟩ := ref_f h2
          have H2 := Lib.hid h2
          have S2 := Lib.hid (Sm.of_below b1)
          clear b1 h2 SC2 HW
          go_wp2_with fail
          go_end0
          exact ⟨rfl, ref_shut (S := ⟨3, left, sum, [], false, 0⟩) (L := 0) (M := sum) (p := 3) (own := []) (.inr (.inr (.inr ⟨rfl, rfl, by simp, rfl, rfl, by simp⟩))) ((((H2.out.store 2 (.int .i64 ((sum : Nat) : Int))).store 1 (.int .i64 0)).store 3 (.int .i64 1)).store 3 (.int .i64 3)), (((S2.out.setCell _ _).setCell _ _).setCell _ _).setCell _ _⟩
        · rw [if_neg hz]
          have t3 : ((n : Int) == 0) = false := beq_eq_false_iff_ne.2 (by omega)
          have t3' : (n == 0) = false := beq_eq_false_iff_ne.2 hz
          clear hz
          go_enter Tryd.func22, Tryd.ntmps22
          go_wp2_with fail
          refine (SC2.out _).mono ?_
          rintro e w1 ⟨rfl, b1⟩
          have h2 := HW.out.grow b1
          obtain ⟨k0, k1, k2, k3, k4, k5, k6, kf, kl⟩ := ref_f h2
          have H2 := Lib.hid h2
          have S2 := Lib.hid (Sm.of_below b1)
          clear b1 h2 SC2 HW
          go_wp2_with fail
          go_end0
          exact ⟨rfl, ref_shut (S := ⟨1, n, sum + n, [], false, 0⟩) (L := n) (M := sum + n) (p := 1) (own := []) (.inr (.inr (.inr ⟨rfl, rfl, by simp, rfl, rfl, fun _ => rfl⟩))) (((H2.out.store 2 (.int .i64 ((sum + n : Nat) : Int))).store 1 (.int .i64 n)).store 3 (.int .i64 1)), ((S2.out.setCell _ _).setCell _ _).setCell _ _⟩
  · have hR : dend ⟨2, left, sum, [], false, 0⟩ s = dbehind ⟨2, left, sum, [], false, 0⟩ s := rfl
    rw [hR]
    unfold dbehind
    obtain ⟨e1, e2⟩ := emp_s s
    obtain ⟨k0, k1, k2, k3, k4, k5, k6, kf, kl⟩ := ref_f hw
    have HW := Lib.hid hw
    clear hR hw
    by_cases h : s = []
    · rw [if_neg (by simp [h])]
      rw [decide_eq_true h] at e1
      rw [decide_eq_false (by simp [h])] at e2
      clear h
      go_enter Tryd.func22, Tryd.ntmps22
      go_wp2_with fail
      go_end0
      exact ⟨rfl, ref_shut (S := ⟨0, left, sum, [], false, 0⟩) (L := L) (M := sum) (p := 0) (own := []) (.inr (.inr (.inr ⟨rfl, rfl, by simp, rfl, rfl, by simp⟩))) (HW.out.store 3 (.int .i64 0)), (Sm.refl w).setCell _ _⟩
    · rw [if_pos h]
      rw [decide_eq_false h] at e1
      rw [decide_eq_true h] at e2
      clear h
      go_enter Tryd.func22, Tryd.ntmps22
      go_wp2_with fail
      go_end0
      exact ⟨rfl, ref_shut (S := ⟨0, left, sum, [], false, 32⟩) (L := L) (M := sum) (p := 0) (own := []) (.inl rfl) ((HW.out.store 6 (.int .i64 32)).store 3 (.int .i64 0)), ((Sm.refl w).setCell _ _).setCell _ _⟩
  · have hR : dend ⟨3, left, sum, [], false, 0⟩ s = dfields ⟨3, left, sum, [], false, 0⟩ s := rfl
    rw [hR]
    unfold dfields
    obtain ⟨e1, e2⟩ := emp_s s
    obtain ⟨k0, k1, k2, k3, k4, k5, k6, kf, kl⟩ := ref_f hw
    have HW := Lib.hid hw
    by_cases h : s = []
    · rw [if_pos h]
      rw [decide_eq_true h] at e1
      rw [decide_eq_false (by simp [h])] at e2
      clear h hR hw
      go_enter Tryd.func22, Tryd.ntmps22
      go_wp2_with fail
      refine bodyPost_ret (v := .tuple #[]) (by simp [results, Tryd.results22, go_sem]) rfl ?_
      exact ⟨rfl, ref_shut (S := ⟨3, left, sum, [], true, 0⟩) (L := L) (M := sum) (p := 3) (own := []) (.inl rfl) (HW.out.store 5 (.bool true)), (Sm.refl w).setCell _ _⟩
    · rw [if_neg h]
      rw [decide_eq_false h] at e1
      rw [decide_eq_true h] at e2
      have PC := Lib.hid (fun wq => rparse_calls (sb s) (by rw [sb_size]; exact hs) wq)
      rw [bl_sb] at PC
      obtain ⟨r, hr⟩ : ∃ q, parseL s = q := ⟨_, rfl⟩
      rw [hr] at PC ⊢
      obtain ⟨z, hz⟩ : ∃ q : Nat, (if r = true then 0 else 31) = q := ⟨_, rfl⟩
      have PD : Hid (∀ wq, Calls Tryd.prog 29 #[.string (sb s)] wq fun e w' => (∃ v, e = .returned (.tuple #[v, .int .i64 (z : Int)]) ∧ ∃ a b, v = .agg #[.string a, .string b]) ∧ Below wq.heap.size wq w') := by
        have ZE : (z : Int) = if r = true then (0 : Int) else 31 := by rw [← hz]; cases r <;> rfl
        rw [ZE]
        exact PC.out
      rw [hz]
      have ZZ : Hid (z = 31 ∨ z = 0) := by rw [← hz]; cases r; exact .inl rfl; exact .inr rfl
      clear h hr hR hw k0 k1 k2 k4 k5 k6 PC hz
      go_enter Tryd.func22, Tryd.ntmps22
      go_wp2_with fail
      refine (PD.out _).mono ?_
      rintro e w1 ⟨⟨v, rfl, a, b, rfl⟩, b1⟩
      have h2 := HW.out.grow b1
      have h3 := h2.alloc (.cells #[.string a, .string b] 61)
      obtain ⟨k0, k1, k2, k3, k4, k5, k6, kf, kl⟩ := ref_f (h3.right)
      have H3 := Lib.hid h3.right
      have S3 := Lib.hid ((Sm.of_below b1).alloc (.cells #[.string a, .string b] 61))
      clear b1 h2 h3 PD HW
      go_wp2_with fail
      go_end0
      refine ⟨rfl, ref_shut (S := ⟨3, left, sum, [], false, z⟩) (L := L) (M := sum) (p := 3) (own := []) ?_ (H3.out.store 6 (.int .i64 z)), S3.out.setCell _ _⟩
      rcases ZZ.out with rfl | rfl
      · exact .inl rfl
      · exact .inr (.inr (.inr ⟨rfl, rfl, by simp, rfl, rfl, by simp⟩))
#print axioms ended_calls
def endD (S : DS) : DS := if stopped S = true then S else if S.st = 5 then { S with done := true } else { S with e := 20 }
def REndC (d K : Nat) (S' : DS) (F : Asr) (w : World) (e : Ending) (w' : World) : Prop := e = .returned (.tuple #[.bool S'.done, .int .i64 S'.e]) ∧ Holds w' (refA d K S' * F) ∧ Sm w w'
theorem end_stop (S : DS) : stopped (endD S) = true := by
  unfold endD
  split
  · rename_i h; exact h
  · split
    · exact stop_d rfl
    · exact stop_e (by simp)
theorem stop_no {S : DS} (h : ¬ stopped S = true) : S.done = false ∧ S.e = 0 := by
  unfold stopped at h
  cases hd : S.done
  · rw [hd] at h; exact ⟨rfl, by simpa using h⟩
  · rw [hd] at h; simp at h
theorem stop_yes {S : DS} (h : stopped S = true) : (S.e = 0 ∧ S.done = true) ∨ S.e ≠ 0 := by
  unfold stopped at h
  by_cases he : S.e = 0
  · left; refine ⟨he, ?_⟩; simpa [he] using h
  · exact .inr he
set_option maxHeartbeats 4000000 in
theorem rend_calls (d K : Nat) (S : DS) (F : Asr) (w : World) (hw : Holds w (refA d K S * F)) : Calls Tryd.prog 11 #[.pointer (some ⟨d, 0, none⟩)] w (REndC d K (endD S) F w) := by
  obtain ⟨L, M, p, own, hrel, h1⟩ := ref_open hw
  obtain ⟨k0, k1, k2, k3, k4, k5, k6, kf, kl⟩ := ref_f h1
  have H1 := Lib.hid h1
  have HREL := Lib.hid hrel
  clear hw h1 hrel
  by_cases hs : stopped S = true
  · have hE : endD S = S := by unfold endD; rw [if_pos hs]
    rw [hE]
    have FIN : Hid (∀ q, REndC d K S F w (.returned (.tuple #[.bool S.done, .int .i64 S.e])) (w.drewN q)) := fun q => ⟨rfl, ref_shut HREL.out (H1.out.drewN q), (Sm.refl w).drewN q⟩
    rcases stop_yes hs with ⟨he, hd⟩ | he
    · rw [he] at k6 FIN
      rw [hd] at k5 FIN
      clear hs hE HREL H1 he hd
      go_enter Tryd.func11, Tryd.ntmps11
      go_wp2_with fail
      go_quiet (fail)
      go_wp2_with fail
      go_ret2
      exact FIN.out _
    · have t1 : ((S.e : Int) == 0) = false := beq_eq_false_iff_ne.2 (by omega)
      have t1' : (S.e == 0) = false := beq_eq_false_iff_ne.2 he
      clear hs hE HREL H1 he
      go_enter Tryd.func11, Tryd.ntmps11
      go_wp2_with fail
      go_quiet (fail)
      go_wp2_with fail
      go_ret2
      exact FIN.out _
  · obtain ⟨hd, he⟩ := stop_no hs
    rw [hd] at k5
    rw [he] at k6
    have hcell : Hid (Holds w (pts d (.cells (cR K L M p own false 0) 52 (0, 0)) * F)) := by have h := H1.out; rw [hd, he] at h; exact h
    by_cases h3 : K = 3
    · have h5 : S.st = 5 := by have := HREL.out; unfold RelK at this; rcases this with h | h | h | h; exact absurd h hs; exact h.2.1; omega; omega
      have hE : endD S = { S with done := true } := by unfold endD; rw [if_neg hs, if_pos h5]
      rw [hE]
      have FIN : Hid (∀ q, REndC d K { S with done := true } F w (.returned (.tuple #[.bool true, .int .i64 0])) ((w.setCell ⟨d, 5, none⟩ (.bool true)).drewN q)) := fun q => ⟨by simp only [he]; rfl, ref_shut (L := L) (M := M) (p := p) (own := own) (.inl (stop_d rfl)) ((by have h := (hcell.out.store 5 (.bool true)); simp only [he]; exact h : Holds (w.setCell ⟨d, 5, none⟩ (.bool true)) _).drewN q), ((Sm.refl w).setCell _ _).drewN q⟩
      subst h3
      clear hs hE HREL H1 he hd h5 hcell
      go_enter Tryd.func11, Tryd.ntmps11
      go_wp2_with fail
      go_quiet (fail)
      go_wp2_with fail
      go_ret2
      exact FIN.out _
    · have h5 : S.st ≠ 5 := by have := HREL.out; unfold RelK at this; rcases this with h | h | h | h; exact absurd h hs; exact absurd h.1 h3; omega; omega
      have hE : endD S = { S with e := 20 } := by unfold endD; rw [if_neg hs, if_neg h5]
      rw [hE]
      have FIN : Hid (∀ q, REndC d K { S with e := 20 } F w (.returned (.tuple #[.bool false, .int .i64 20])) ((w.setCell ⟨d, 6, none⟩ (.int .i64 20)).drewN q)) := fun q => ⟨by simp only [hd]; rfl, ref_shut (L := L) (M := M) (p := p) (own := own) (.inl (stop_e (by simp))) ((by have h := (hcell.out.store 6 (.int .i64 20)); simp only [hd]; exact h : Holds (w.setCell ⟨d, 6, none⟩ (.int .i64 20)) _).drewN q), ((Sm.refl w).setCell _ _).drewN q⟩
      have t1 : ((K : Int) == 3) = false := beq_eq_false_iff_ne.2 (by omega)
      have t1' : (K == 3) = false := beq_eq_false_iff_ne.2 h3
      clear hs hE HREL H1 he hd h5 hcell h3
      go_enter Tryd.func11, Tryd.ntmps11
      go_wp2_with fail
      go_quiet (fail)
      go_wp2_with fail
      go_ret2
      exact FIN.out _
#print axioms rend_calls
end Go.Proofs.YtibhnkkfaochhaaDoor.Dec
