/-
  Layer 17: seek, find, lay.
-/
import Derived.Test.YtefcinifaaablaaStr2
import Derived.StillTailTactics
namespace Go.Proofs.Ytefcinifaaablaa.Stripe
open Go.RowKit Go.Sep
set_option maxRecDepth 100000
set_option linter.unusedVariables false
set_option linter.unusedSimpArgs false

def seekL (l : List Sl) (t : Int) (k : List UInt8) : Option Nat := match prb l t k (pS t k) with
  | none => none
  | some j => if (l.getD j e0).st = 0 then none else some j
theorem prbF_lt (l : List Sl) (a : Nat) (p : Sl → Bool) : ∀ m i j, prbF l a p i m = some j → 0 < l.length → j < l.length ∧ p (l.getD j e0) = true
  | 0, _, _, h, _ => by cases h
  | m + 1, i, j, h, h0 => by
    rw [prbF] at h
    split at h
    · rename_i hp
      obtain rfl := Option.some.inj h
      exact ⟨Nat.mod_lt _ h0, hp⟩
    · exact prbF_lt l a p m (i + 1) j h h0
theorem prb_lt {l : List Sl} {t : Int} {k : List UInt8} {p : Sl → Bool} {j : Nat} (h : prb l t k p = some j) : j < l.length ∧ p (l.getD j e0) = true := by
  rcases Nat.eq_zero_or_pos l.length with h0 | h0
  · unfold prb at h; rw [h0, prbF] at h; cases h
  · exact prbF_lt _ _ _ _ _ _ h h0
set_option maxHeartbeats 4000000 in
theorem seek_calls (g : Nat) (l : List Sl) (h0 : 0 < l.length) (hl : l.length ≤ 100000) (t : Int) (k : List UInt8) (hk : k.length ≤ 1000) (F : Asr) (w : World) (hw : Holds w (slA g l * F)) :
    Calls Try.prog 82 #[.slice (some ⟨g, 0, none⟩) l.length l.length, .agg #[.int .i64 t, .string (ks k)]] w (ProbeC g (seekL l t k) w) := by
  have hA := (hw.alloc (.cells #[.int .i64 t, .string (ks k)] 74)).eqv (star_left_comm _ _ _)
  have PC := Lib.hid (probeS_calls g w.heap.size l h0 hl t k hk (pS t k) (pts w.heap.size (.cells #[.int .i64 t, .string (ks k)] 74 (0, 0)) * F) (fun j hj wq hq => seekP_calls g w.heap.size l t k F j hj wq hq) _ hA)
  have HA := Lib.hid hA
  have B0 : Hid (Below w.heap.size w (w.alloc (.cells #[.int .i64 t, .string (ks k)] 74))) := (Below.refl _ w).alloc (Nat.le_refl _) _
  have HP : Hid (∀ j, prb l t k (pS t k) = some j → _) := fun j h => prb_lt h
  have HS : Hid (seekL l t k = match prb l t k (pS t k) with
    | none => none
    | some j => if (l.getD j e0).st = 0 then none else some j) := rfl
  obtain ⟨R, hR⟩ : ∃ q, prb l t k (pS t k) = q := ⟨_, rfl⟩
  rw [hR] at PC HP HS
  obtain ⟨S, hS⟩ : ∃ q, seekL l t k = q := ⟨_, rfl⟩
  rw [hS] at HS ⊢
  have HL := Lib.hid (fun (wq : World) (hq : Holds wq (slA g l * (pts w.heap.size (.cells #[.int .i64 t, .string (ks k)] 74 (0, 0)) * F))) j hj => sl_f hq j hj)
  obtain ⟨n, hn⟩ : ∃ q, l.length = q := ⟨_, rfl⟩
  have HN := Lib.hid hn
  rw [hn] at PC ⊢
  obtain ⟨N, hN⟩ : ∃ q, ks k = q := ⟨_, rfl⟩
  rw [hN] at PC HA B0 HL ⊢
  clear hw hA hR hS hn hN hl h0
  go_enter Try.func82, Try.ntmps82
  go_wp2_with fail
  refine (PC.out).mono ?_
  rintro e w1 ⟨rfl, b1⟩
  have B1 : Hid (Below w.heap.size w w1) := B0.out.trans (b1.mono B0.out.size)
  have H1 := Lib.hid (HA.out.grow b1)
  clear b1 PC HA B0
  cases R with
  | none =>
    have hs : none = S := HS.out.symm
    subst hs
    unfold ptr
    go_wp2_with fail
    go_ret
    exact ⟨rfl, B1.out⟩
  | some j =>
    obtain ⟨hj, hp⟩ := HP.out j rfl
    obtain ⟨c0, c1, c2, c3, fz, lt⟩ := HL.out w1 H1.out j hj
    have hs := HS.out
    dsimp only at hs
    rw [List.getD_eq_getElem?_getD, List.getElem?_eq_getElem hj, Option.getD_some] at hs
    obtain ⟨s, hs2⟩ : ∃ q, l[j] = q := ⟨_, rfl⟩
    rw [hs2] at hs c0
    clear c1 c2 c3 hp hs2 HS HP HL
    by_cases hz : s.st = 0
    · rw [hz] at c0
      simp only [hz, if_true] at hs
      clear hz
      subst hs
      unfold ptr
      go_wp2_with fail
      go_ret
      exact ⟨rfl, B1.out⟩
    · have t1 : ((s.st : Int) == 0) = false := beq_eq_false_iff_ne.2 (by omega)
      have t1' : (s.st == 0) = false := beq_eq_false_iff_ne.2 hz
      simp only [hz, if_false] at hs
      clear hz
      subst hs
      unfold ptr
      go_wp2_with fail
      go_ret
      exact ⟨rfl, B1.out⟩
#print axioms seek_calls
theorem seekN_calls (t : Int) (k : List UInt8) (hk : k.length ≤ 1000) (w : World) :
    Calls Try.prog 82 #[.slice none 0 0, .agg #[.int .i64 t, .string (ks k)]] w (ProbeC 0 none w) := by
  have PC := Lib.hid (fun wq => probeN_calls w.heap.size t k hk wq)
  have B0 : Hid (Below w.heap.size w (w.alloc (.cells #[.int .i64 t, .string (ks k)] 74))) := (Below.refl _ w).alloc (Nat.le_refl _) _
  obtain ⟨N, hN⟩ : ∃ q, ks k = q := ⟨_, rfl⟩
  rw [hN] at PC B0 ⊢
  clear hN
  go_enter Try.func82, Try.ntmps82
  go_wp2_with fail
  refine (PC.out _).mono ?_
  rintro e w1 ⟨rfl, b1⟩
  have B1 : Hid (Below w.heap.size w w1) := B0.out.trans (b1.mono B0.out.size)
  clear b1 PC B0
  unfold ptr
  go_wp2_with fail
  go_ret
  exact ⟨rfl, B1.out⟩
#print axioms seekN_calls
structure Bd where
  g : Nat
  l : List Sl
  used : Nat
  eg : Option Nat
  el : List Sl
  moved : Nat
  count : Nat
def slV (g : Option Nat) (n : Nat) : Value := .slice (g.map fun g => ⟨g, 0, none⟩) n n
def bE (B : Bd) : List Value := [slV (some B.g) B.l.length, .int .i64 B.used, slV B.eg B.el.length, .int .i64 B.moved, .int .i64 B.count]
theorem bE_len (B : Bd) : (bE B).length = 5 := rfl
def bdA (gb : Nat) (Bs : List Bd) : Asr := pts gb (.cells (flat bE Bs) 136 (0, 0))
def elA : Option Nat → List Sl → Asr
  | none, l => pur (l = [])
  | some g, l => pur (l ≠ []) * slA g l
def rowsA (B : Bd) : Asr := slA B.g B.l * elA B.eg B.el
structure BdF (w : World) (gb i : Nat) (B : Bd) : Prop where
  c0 : w.cell? ⟨gb, i * 5, none⟩ = some (.slice (some ⟨B.g, 0, none⟩) B.l.length B.l.length)
  c1 : w.cell? ⟨gb, i * 5 + 1, none⟩ = some (.int .i64 B.used)
  c2 : w.cell? ⟨gb, i * 5 + 2, none⟩ = some (slV B.eg B.el.length)
  c3 : w.cell? ⟨gb, i * 5 + 3, none⟩ = some (.int .i64 B.moved)
  c4 : w.cell? ⟨gb, i * 5 + 4, none⟩ = some (.int .i64 B.count)
  fz : ∀ o, w.frozen? ⟨gb, o, none⟩ = false
  lt : gb < w.heap.size
theorem bd_f {w : World} {gb : Nat} {Bs : List Bd} {F : Asr} (h : Holds w (bdA gb Bs * F)) (i : Nat) (hi : i < Bs.length) : BdF w gb i Bs[i] := by
  have c := h.cell
  have f : ∀ j, j < 5 → (flat bE Bs)[i * 5 + j]? = (bE Bs[i])[j]? := fun j hj => flat_get bE_len i j hi hj
  refine ⟨?_, ?_, ?_, ?_, ?_, h.frozen, h.lt⟩
  · rw [c, show i * 5 = i * 5 + 0 from rfl, f 0 (by omega)]; rfl
  · rw [c, f 1 (by omega)]; rfl
  · rw [c, f 2 (by omega)]; rfl
  · rw [c, f 3 (by omega)]; rfl
  · rw [c, f 4 (by omega)]; rfl
def findB (B : Bd) (t : Int) (k : List UInt8) : Option (Bool × Nat) := match seekL B.l t k with
  | some j => some (false, j)
  | none => match seekL B.el t k with
    | some j => some (true, j)
    | none => none
def fptr (B : Bd) : Option (Bool × Nat) → Value
  | none => .pointer none
  | some (false, j) => .pointer (some ⟨B.g, j * 4, none⟩)
  | some (true, j) => .pointer (some ⟨B.eg.getD 0, j * 4, none⟩)
def FindC (B : Bd) (R : Option (Bool × Nat)) (w : World) (e : Ending) (w' : World) : Prop := e = .returned (fptr B R) ∧ Below w.heap.size w w'
theorem el_some {g : Nat} {l : List Sl} {F : Asr} {w : World} (h : Holds w (elA (some g) l * F)) : l ≠ [] ∧ Holds w (slA g l * F) := by
  unfold elA at h
  rw [star_assoc] at h
  exact holds_pur.1 h
theorem el_none {l : List Sl} {F : Asr} {w : World} (h : Holds w (elA none l * F)) : l = [] ∧ Holds w F := holds_pur.1 h
theorem el_mk {g : Nat} {l : List Sl} {F : Asr} {w : World} (hl : l ≠ []) (h : Holds w (slA g l * F)) : Holds w (elA (some g) l * F) := by
  unfold elA
  rw [star_assoc]
  exact holds_pur.2 ⟨hl, h⟩
theorem el_mk0 {F : Asr} {w : World} (h : Holds w F) : Holds w (elA none [] * F) := holds_pur.2 ⟨rfl, h⟩
set_option maxHeartbeats 4000000 in
theorem find_calls (gb i : Nat) (Bs : List Bd) (hi : i < Bs.length) (B : Bd) (hB : Bs[i] = B) (h0 : 0 < B.l.length) (h1 : B.l.length ≤ 100000) (h2 : B.el.length ≤ 100000) (t : Int) (k : List UInt8) (hk : k.length ≤ 1000) (F : Asr) (w : World) (hw : Holds w (bdA gb Bs * (slA B.g B.l * (elA B.eg B.el * F)))) :
    Calls Try.prog 62 #[.pointer (some ⟨gb, i * 5, none⟩), .agg #[.int .i64 t, .string (ks k)]] w (FindC B (findB B t k) w) := by
  have SL := Lib.hid (fun (wq : World) (hq : Holds wq (bdA gb Bs * (slA B.g B.l * (elA B.eg B.el * F)))) => seek_calls B.g B.l h0 h1 t k hk _ wq (hq.eqv (star_left_comm _ _ _)))
  have SE : Hid (∀ (wq : World) (hq : Holds wq (bdA gb Bs * (slA B.g B.l * (elA B.eg B.el * F)))), Calls Try.prog 82 #[slV B.eg B.el.length, .agg #[.int .i64 t, .string (ks k)]] wq (ProbeC (B.eg.getD 0) (seekL B.el t k) wq)) := by
    intro wq hq
    have h3 := hq.eqv (by ac_rfl : _ = elA B.eg B.el * (bdA gb Bs * (slA B.g B.l * F)))
    cases he : B.eg with
    | none =>
      rw [he] at h3
      obtain ⟨e1, -⟩ := el_none h3
      rw [e1]
      exact seekN_calls t k hk wq
    | some g =>
      rw [he] at h3
      obtain ⟨e1, h4⟩ := el_some h3
      exact seek_calls g B.el (List.length_pos_iff.2 e1) h2 t k hk _ wq h4
  have HW := Lib.hid hw
  have HF : Hid (∀ (wq : World) (hq : Holds wq (bdA gb Bs * (slA B.g B.l * (elA B.eg B.el * F)))), BdF wq gb i B) := fun wq hq => by have := bd_f hq i hi; rw [hB] at this; exact this
  have HR : Hid (findB B t k = match seekL B.l t k with
    | some j => some (false, j)
    | none => match seekL B.el t k with
      | some j => some (true, j)
      | none => none) := rfl
  obtain ⟨R, hR⟩ : ∃ q, findB B t k = q := ⟨_, rfl⟩
  obtain ⟨r1, hr1⟩ : ∃ q, seekL B.l t k = q := ⟨_, rfl⟩
  obtain ⟨r2, hr2⟩ : ∃ q, seekL B.el t k = q := ⟨_, rfl⟩
  rw [hR, hr1, hr2] at HR
  rw [hR]
  rw [hr1] at SL
  rw [hr2] at SE
  have B0 : Hid (Below w.heap.size w (w.alloc (.cells #[.int .i64 t, .string (ks k)] 74))) := (Below.refl _ w).alloc (Nat.le_refl _) _
  have hA := hw.alloc (.cells #[.int .i64 t, .string (ks k)] 74)
  have hA2 := hw.grow B0.out
  obtain ⟨n0, n1⟩ := nam_cell hA
  obtain ⟨c0, c1, c2, c3, c4, fz, lt⟩ := HF.out _ hA2
  have SL1 := Lib.hid (SL.out (w.alloc (.cells #[.int .i64 t, .string (ks k)] 74)).drew hA2.drew)
  have NA : Hid (∀ wq, Below w.heap.size w wq → (∀ o, wq.cell? ⟨w.heap.size, o, none⟩ = (w.alloc (.cells #[.int .i64 t, .string (ks k)] 74)).cell? ⟨w.heap.size, o, none⟩) → True) := fun _ _ _ => trivial
  obtain ⟨W0, hW0⟩ : ∃ q, w.alloc (.cells #[.int .i64 t, .string (ks k)] 74) = q := ⟨_, rfl⟩
  have HW0 := Lib.hid hW0
  rw [hW0] at n0 n1 c0 SL1 B0
  have LB : w.heap.size < W0.heap.size := by rw [← hW0]; simp
  have LB' := Lib.hid LB
  obtain ⟨N, hN⟩ : ∃ q, ks k = q := ⟨_, rfl⟩
  rw [hN] at SL1 SE n1 HW0 ⊢
  have M0 := Lib.hid n0
  have M1 := Lib.hid n1
  clear hw hA hA2 hB hR hr1 hr2 hN c1 c2 c3 c4 h0 h1 h2 SL hk NA hW0 fz lt LB
  go_enter Try.func62, Try.ntmps62
  go_wp2_with fail
  rw [HW0.out]
  go_still_tail 5, (by kernel_rfl)
  go_wp2_with fail
  refine (SL1.out).mono ?_
  rintro e w2 ⟨rfl, b2⟩
  have b3 := (below_drewN (Below.refl W0.heap.size W0) 1).trans b2
  have B2 : Hid (Below w.heap.size w w2) := B0.out.trans (b3.mono B0.out.size)
  have n0 : w2.cell? ⟨w.heap.size, 0, none⟩ = some (.int .i64 t) := (b3.cell (p := ⟨w.heap.size, 0, none⟩) LB'.out).trans M0.out
  have n1 : w2.cell? ⟨w.heap.size, 1, none⟩ = some (.string N) := (b3.cell (p := ⟨w.heap.size, 1, none⟩) LB'.out).trans M1.out
  clear b2 b3 SL1 M0 M1 c0
  cases r1 with
  | some j =>
    have hr : some (false, j) = R := HR.out.symm
    subst hr
    unfold ptr
    go_wp2_with fail
    go_ret
    exact ⟨rfl, B2.out⟩
  | none =>
    have H2 := HW.out.grow B2.out
    obtain ⟨d0, d1, d2, d3, d4, dz, dt⟩ := HF.out _ H2
    have SE1 := Lib.hid (SE.out w2.drew H2.drew)
    obtain ⟨V, hV⟩ : ∃ q, slV B.eg B.el.length = q := ⟨_, rfl⟩
    rw [hV] at d2 SE1
    unfold ptr
    clear d0 d1 d3 d4 dz dt H2 SE hV HW0
    go_wp2_with fail
    go_still_tail 5, (by kernel_rfl)
    go_wp2_with fail
    refine (SE1.out).mono ?_
    rintro e w3 ⟨rfl, b3⟩
    have b4 := (below_drewN (Below.refl w2.heap.size w2) 1).trans b3
    have B3 : Hid (Below w.heap.size w w3) := B2.out.trans (b4.mono B2.out.size)
    clear b3 b4 SE1
    cases r2 with
    | none =>
      have hr : none = R := HR.out.symm
      subst hr
      unfold ptr
      go_wp2_with fail
      go_ret
      exact ⟨rfl, B3.out⟩
    | some j =>
      have hr : some (true, j) = R := HR.out.symm
      subst hr
      unfold ptr
      go_wp2_with fail
      go_ret
      exact ⟨rfl, B3.out⟩
#print axioms find_calls
end Go.Proofs.Ytefcinifaaablaa.Stripe
