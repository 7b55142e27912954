/-
  Layer 17: the calls of a table, by its one list of entries.
-/
import Derived.Test.YtefcinifaaablaaStr11
import Derived.Test.YtefcinifaaablaaStrP4
namespace Go.Proofs.Ytefcinifaaablaa.Stripe
open Go.RowKit Go.Sep
set_option maxRecDepth 100000
set_option linter.unusedVariables false
set_option linter.unusedSimpArgs false

def TB (tb gb nb : Nat) (L : List En) : Asr := ex fun Bs : List Bd => pur (TR nb Bs L) * tabA tb gb Bs
theorem tb_open {tb gb nb : Nat} {L : List En} {F : Asr} {w : World} (h : Holds w (TB tb gb nb L * F)) : ∃ Bs, TR nb Bs L ∧ Holds w (tabA tb gb Bs * F) := by
  unfold TB at h
  rw [ex_star] at h
  obtain ⟨Bs, h⟩ := holds_ex.1 h
  rw [star_assoc] at h
  obtain ⟨h1, h2⟩ := holds_pur.1 h
  exact ⟨Bs, h1, h2⟩
theorem tb_mk {tb gb nb : Nat} {L : List En} {F : Asr} {w : World} {Bs : List Bd} (hr : TR nb Bs L) (h : Holds w (tabA tb gb Bs * F)) : Holds w (TB tb gb nb L * F) := by
  unfold TB
  rw [ex_star]
  refine holds_ex.2 ⟨Bs, ?_⟩
  rw [star_assoc]
  exact holds_pur.2 ⟨hr, h⟩
theorem tr_bas {nb : Nat} {Bs : List Bd} {L : List En} (h : TR nb Bs L) : ∀ B ∈ Bs, Bas B := by
  intro B hB
  obtain ⟨j, hj, rfl⟩ := List.getElem_of_mem hB
  exact (h.wt.wb j hj).c.bas
theorem tr_pos {nb : Nat} {Bs : List Bd} {L : List En} (h : TR nb Bs L) : 0 < Bs.length ∧ Bs.length ≤ 64 := by rw [h.wt.len]; exact ⟨h.wt.pos, h.wt.le⟩
theorem new_none (n : Int) (h : n < 1 ∨ 64 < n) (w : World) : Calls Try.prog 31 #[.int .i64 n] w fun e w' => e = .returned (.tuple #[.pointer none, .int .i64 2]) ∧ w' = w := newT_bad n h w
def NewC (n : Nat) (F : Asr) (w : World) (e : Ending) (w' : World) : Prop := ∃ tb gb, e = .returned (.tuple #[.pointer (some ⟨tb, 0, none⟩), .int .i64 0]) ∧ Holds w' (TB tb gb n [] * F) ∧ Sm w w'
theorem new_calls (n : Nat) (h1 : 1 ≤ n) (h2 : n ≤ 64) (F : Asr) (w : World) (hw : Holds w F) : Calls Try.prog 31 #[.int .i64 n] w (NewC n F w) := by
  refine (newT_calls n h1 h2 F w hw).mono ?_
  rintro e w' ⟨tb, gb, gs, rfl, hl, hh, hs⟩
  subst hl
  exact ⟨tb, gb, rfl, tb_mk (new_tr gs h1 h2) hh, hs⟩
def PutTC (tb gb nb : Nat) (r : (Int × Bool × Nat) × List En) (F : Asr) (w : World) (e : Ending) (w' : World) : Prop := e = .returned (.tuple #[.int .i64 r.1.1, .bool r.1.2.1, .int .i64 r.1.2.2]) ∧ Holds w' (TB tb gb nb r.2 * F) ∧ Sm w w'
theorem putT_calls (tb gb nb : Nat) (L : List En) (t : Int) (k : List UInt8) (v : Int) (hk : k.length ≤ 1000) (F : Asr) (w : World) (hw : Holds w (TB tb gb nb L * F)) :
    Calls Try.prog 33 #[.pointer (some ⟨tb, 0, none⟩), .agg #[.int .i64 t, .string (ks k)], .int .i64 v] w (PutTC tb gb nb (putL L nb t k v) F w) := by
  obtain ⟨Bs, hr, h⟩ := tb_open hw
  obtain ⟨p0, p1⟩ := tr_pos hr
  have hi := ix_lt hr.wt t k
  have hwb := hr.wt.wb _ hi
  refine (put_calls tb gb Bs p0 p1 t k v hk hi hwb.c.bas (fun hn hc => ?_) F w h).mono ?_
  · refine ⟨(wb_grown hwb 0).1, fun g => ?_⟩
    obtain ⟨-, g1, -, -, g4, -, -⟩ := wb_grown hwb g
    exact ⟨g1.bas, prb_room g4 t k⟩
  · rintro e w' ⟨g, rfl, h2, s2⟩
    obtain ⟨e1, e2⟩ := put_spec hr t k v g
    exact ⟨by rw [e1], tb_mk e2 h2, s2⟩
theorem getT_calls (tb gb nb : Nat) (L : List En) (t : Int) (k : List UInt8) (hk : k.length ≤ 1000) (F : Asr) (w : World) (hw : Holds w (TB tb gb nb L * F)) :
    Calls Try.prog 38 #[.pointer (some ⟨tb, 0, none⟩), .agg #[.int .i64 t, .string (ks k)]] w fun e w' => e = .returned (.tuple #[.int .i64 (getL L t k).1, .bool (getL L t k).2]) ∧ Below w.heap.size w w' := by
  obtain ⟨Bs, hr, h⟩ := tb_open hw
  obtain ⟨p0, p1⟩ := tr_pos hr
  have hi := ix_lt hr.wt t k
  refine (get_calls tb gb Bs p0 p1 t k hk hi (hr.wt.wb _ hi).c.bas F w h).mono ?_
  rintro e w' ⟨rfl, b⟩
  exact ⟨by rw [get_spec hr], b⟩
def DelTC (tb gb nb : Nat) (r : (Int × Bool) × List En) (F : Asr) (w : World) (e : Ending) (w' : World) : Prop := e = .returned (.tuple #[.int .i64 r.1.1, .bool r.1.2]) ∧ Holds w' (TB tb gb nb r.2 * F) ∧ Sm w w'
theorem delT_calls (tb gb nb : Nat) (L : List En) (t : Int) (k : List UInt8) (hk : k.length ≤ 1000) (F : Asr) (w : World) (hw : Holds w (TB tb gb nb L * F)) :
    Calls Try.prog 34 #[.pointer (some ⟨tb, 0, none⟩), .agg #[.int .i64 t, .string (ks k)]] w (DelTC tb gb nb (delR L t k) F w) := by
  obtain ⟨Bs, hr, h⟩ := tb_open hw
  obtain ⟨p0, p1⟩ := tr_pos hr
  have hi := ix_lt hr.wt t k
  obtain ⟨e1, e2, e3⟩ := del_spec hr t k
  refine (del_calls tb gb Bs p0 p1 t k hk hi (hr.wt.wb _ hi).c.bas e3 F w h).mono ?_
  rintro e w' ⟨rfl, h2, s2⟩
  exact ⟨by rw [e1], tb_mk e2 h2, s2⟩
def RepTC (tb gb nb : Nat) (r : Bool × List En) (F : Asr) (w : World) (e : Ending) (w' : World) : Prop := e = .returned (.bool r.1) ∧ Holds w' (TB tb gb nb r.2 * F) ∧ Sm w w'
theorem repT_calls (tb gb nb : Nat) (L : List En) (t : Int) (k : List UInt8) (old v : Int) (hk : k.length ≤ 1000) (F : Asr) (w : World) (hw : Holds w (TB tb gb nb L * F)) :
    Calls Try.prog 39 #[.pointer (some ⟨tb, 0, none⟩), .agg #[.int .i64 t, .string (ks k)], .int .i64 old, .int .i64 v] w (RepTC tb gb nb (repR L t k old v) F w) := by
  obtain ⟨Bs, hr, h⟩ := tb_open hw
  obtain ⟨p0, p1⟩ := tr_pos hr
  have hi := ix_lt hr.wt t k
  obtain ⟨e1, e2⟩ := rep_spec hr t k old v
  refine (rep_calls tb gb Bs p0 p1 t k old v hk hi (hr.wt.wb _ hi).c.bas F w h).mono ?_
  rintro e w' ⟨rfl, h2, s2⟩
  exact ⟨by rw [e1], tb_mk e2 h2, s2⟩
theorem lenT_calls (tb gb nb : Nat) (L : List En) (F : Asr) (w : World) (hw : Holds w (TB tb gb nb L * F)) :
    Calls Try.prog 36 #[.pointer (some ⟨tb, 0, none⟩)] w fun e w' => e = .returned (.int .i64 L.length) ∧ w' = w := by
  obtain ⟨Bs, hr, h⟩ := tb_open hw
  obtain ⟨p0, p1⟩ := tr_pos hr
  refine (len_calls tb gb Bs p0 p1 (fun B hB => (tr_bas hr B hB).c) F w h).mono ?_
  rintro e w' ⟨rfl, b⟩
  exact ⟨by rw [cnt_spec hr], b⟩
theorem len_bound {tb gb nb : Nat} {L : List En} {F : Asr} {w : World} (hw : Holds w (TB tb gb nb L * F)) : L.length ≤ 640000 := by
  obtain ⟨Bs, hr, h⟩ := tb_open hw
  obtain ⟨p0, p1⟩ := tr_pos hr
  have h1 := cnt_le (fun B hB => (tr_bas hr B hB).c) Bs.length (Nat.le_refl _)
  rw [List.take_length, cnt_spec hr] at h1
  omega
def strT (L : List En) (nb : Nat) (k : Int) : Nat := if 0 ≤ k ∧ k < nb then stL L nb k.toNat else 0
theorem stripeT_calls (tb gb nb : Nat) (L : List En) (k : Int) (F : Asr) (w : World) (hw : Holds w (TB tb gb nb L * F)) :
    Calls Try.prog 35 #[.pointer (some ⟨tb, 0, none⟩), .int .i64 k] w fun e w' => e = .returned (.int .i64 (strT L nb k)) ∧ w' = w := by
  obtain ⟨Bs, hr, h⟩ := tb_open hw
  obtain ⟨p0, p1⟩ := tr_pos hr
  refine (stripe_calls tb gb Bs p0 k F w h).mono ?_
  rintro e w' ⟨rfl, b⟩
  refine ⟨?_, b⟩
  have : strB Bs k = (strT L nb k : Int) := by
    unfold strB strT
    by_cases hk : k < 0
    · rw [if_pos hk, if_neg (by omega)]; rfl
    · rw [if_neg hk, List.getD_eq_getElem?_getD, List.getElem?_map]
      by_cases hkn : k < nb
      · have hi : k.toNat < Bs.length := by rw [hr.wt.len]; omega
        rw [if_pos ⟨by omega, hkn⟩, List.getElem?_eq_getElem hi, st_spec hr hi]
        rfl
      · rw [if_neg (by omega), List.getElem?_eq_none (by rw [hr.wt.len]; omega)]
        rfl
  rw [this]
def okE (t : Int) (p : List UInt8) (e : En) : Bool := decide (e.1 = t) && p.isPrefixOf e.2.1
def scanE (L : List En) (t : Int) (p : List UInt8) : List (List UInt8) := (L.filter (okE t p)).map fun e => e.2.1
theorem scanE_app (A B : List En) (t : Int) (p : List UInt8) : scanE (A ++ B) t p = scanE A t p ++ scanE B t p := by unfold scanE; rw [List.filter_append, List.map_append]
theorem sel_ents (t : Int) (p : List UInt8) : ∀ l : List Sl, sel t p l = scanE (ents l) t p
  | [] => rfl
  | s :: l => by
    rw [ents_cons, scanE_app, ← sel_ents t p l]
    unfold sel ent1 okS
    by_cases h1 : s.st = 1
    · by_cases h2 : s.t = t
      · by_cases h3 : p.isPrefixOf s.k = true
        · rw [if_pos h1, List.filter_cons_of_pos (by simp [h1, h2, h3])]
          simp [scanE, okE, h2, h3]
        · rw [if_pos h1, List.filter_cons_of_neg (by simp [h1, h2, h3])]
          simp [scanE, okE, h2, h3]
      · rw [if_pos h1, List.filter_cons_of_neg (by simp [h1, h2])]
        simp [scanE, okE, h2]
    · rw [if_neg h1, List.filter_cons_of_neg (by simp [h1])]
      simp [scanE]
theorem scan_ents (t : Int) (p : List UInt8) : ∀ Bs : List Bd, scanL t p Bs = scanE (entT Bs) t p
  | [] => rfl
  | B :: Bs => by
    rw [entT_cons, scanE_app, ← scan_ents t p Bs]
    unfold scanL
    rw [List.flatMap_cons]
    congr 1
    unfold selB entB
    rw [scanE_app, sel_ents, sel_ents]
def ScanTC (tb gb nb : Nat) (L : List En) (t : Int) (p : List UInt8) (F : Asr) (w : World) (e : Ending) (w' : World) : Prop := ∃ ao cap S, e = .returned (.slice ao (scanE L t p).length cap) ∧ S.Perm (scanE L t p) ∧ Holds w' (rowA 74 2 (.slice ao (scanE L t p).length cap) (scanE L t p).length ((sortK S).flatMap (nE t)) * (TB tb gb nb L * F)) ∧ Sm w w'
theorem scanT_calls (tb gb nb : Nat) (L : List En) (t : Int) (p : List UInt8) (F : Asr) (w : World) (hw : Holds w (TB tb gb nb L * F)) :
    Calls Try.prog 37 #[.pointer (some ⟨tb, 0, none⟩), .int .i64 t, .string (ks p)] w (ScanTC tb gb nb L t p F w) := by
  obtain ⟨Bs, hr, h⟩ := tb_open hw
  obtain ⟨p0, p1⟩ := tr_pos hr
  refine (scan_calls tb gb Bs p0 p1 (tr_bas hr) t p F w h).mono ?_
  rintro e w' ⟨v, rfl, h2, s2⟩
  have hp : (scanL t p Bs).Perm (scanE L t p) := by
    rw [scan_ents]
    exact (hr.pm.filter _).map _
  have hl : (sortK (scanL t p Bs)).length = (scanE L t p).length := by rw [sortK_len, hp.length_eq]
  rw [hl] at h2
  obtain ⟨ao, cap, rfl, -⟩ := rowA_slice h2
  refine ⟨ao, cap, scanL t p Bs, rfl, hp, ?_, s2⟩
  have h3 := h2.eqv (star_left_comm _ _ _)
  exact (tb_mk hr h3).eqv (star_left_comm _ _ _)
#print axioms putT_calls
#print axioms scanT_calls
#print axioms stripeT_calls
end Go.Proofs.Ytefcinifaaablaa.Stripe
