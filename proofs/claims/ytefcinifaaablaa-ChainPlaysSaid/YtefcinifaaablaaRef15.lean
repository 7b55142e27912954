/-
  The document's arena (ref15): its memory, and what its functions do.
-/
import Derived.Test.YtefcinifaaablaaRows
import Derived.Test.YtefcinifaaablaaMem
import Derived.Deep.QuietTactic
import Derived.BigQuiet
import Derived.RegionTactic
import Derived.LoopTactic
import Derived.OwnWalk
import Derived.Outline
namespace Go.Proofs.Ytefcinifaaablaa.Ref15
open Go.RowKit Go.Sep
set_option maxRecDepth 100000
set_option linter.unusedVariables false
set_option linter.unusedSimpArgs false

structure RBlk where
  (c i g h : Int)
  loc : Option Nat
  bytes : List Int
def RBlk.sl (b : RBlk) : Value := match b.loc with
  | none => .slice none 0 0
  | some x => .slice (some ⟨x, 0, none⟩) b.bytes.length b.bytes.length
def RBlk.enc (b : RBlk) : List Value := [.int .i64 b.c, .int .i64 b.i, .int .i64 b.g, .int .i64 b.h, b.sl]
theorem enc_len (b : RBlk) : b.enc.length = 5 := rfl
def RBlk.own (b : RBlk) : Asr := match b.loc with
  | none => emp
  | some x => pts x (.cells (b.bytes.map (Value.int .i64)).toArray 3 (0, 0))
def hd (a : Nat) (B : Nat → Int) (v : Value) : Asr := pts a (.cells #[.int .i64 (B 0), .int .i64 (B 1), .int .i64 (B 2), .int .i64 (B 3), v] 114 (0, 0))
def refA (a : Nat) (B : Nat → Int) (L : List RBlk) : Asr := ex fun v => hd a B v * (rowL 120 5 RBlk.enc v L * big RBlk.own L)

theorem ref_open {w : World} {a : Nat} {B : Nat → Int} {L : List RBlk} {F : Asr} (h : Holds w (refA a B L * F)) : ∃ v, Holds w (hd a B v * (rowL 120 5 RBlk.enc v L * (big RBlk.own L * F))) := by
  unfold refA at h
  rw [ex_star] at h
  obtain ⟨x, ⟨v, hv⟩, k⟩ := h
  have h0 : Holds w (hd a B v * (rowL 120 5 RBlk.enc v L * big RBlk.own L) * F) := ⟨x, hv, k⟩
  exact ⟨v, h0.eqv (by ac_rfl)⟩
theorem ref_shut {w : World} {a : Nat} {B : Nat → Int} {L : List RBlk} {F : Asr} {v : Value} (h : Holds w (hd a B v * (rowL 120 5 RBlk.enc v L * (big RBlk.own L * F)))) : Holds w (refA a B L * F) := by
  unfold refA
  rw [ex_star]
  obtain ⟨x, hv, k⟩ := h.eqv (by ac_rfl : _ = hd a B v * (rowL 120 5 RBlk.enc v L * big RBlk.own L) * F)
  exact ⟨x, ⟨v, hv⟩, k⟩

def findL (L : List RBlk) (c i : Int) : Int := match L.findIdx? (fun b => b.c == c && b.i == i) with
  | some k => k
  | none => -1
theorem find_at (L : List RBlk) (c i : Int) (k : Nat) (hk : k < L.length) (h : L[k].c = c ∧ L[k].i = i) (hno : ∀ j (h : j < k), ¬ (L[j].c = c ∧ L[j].i = i)) : findL L c i = k := by
  have : L.findIdx? (fun b => b.c == c && b.i == i) = some k := by
    rw [List.findIdx?_eq_some_iff_getElem]
    refine ⟨hk, by simp [h], fun j hj => ?_⟩
    have := hno j hj
    simpa using this
  simp [findL, this]
theorem find_no (L : List RBlk) (c i : Int) (hno : ∀ j (h : j < L.length), ¬ (L[j].c = c ∧ L[j].i = i)) : findL L c i = -1 := by
  have : L.findIdx? (fun b => b.c == c && b.i == i) = none := by
    rw [List.findIdx?_eq_none_iff]
    intro b hb
    obtain ⟨j, hj, rfl⟩ := List.getElem_of_mem hb
    have := hno j hj
    simpa using this
  simp [findL, this]

/-- what a function that only reads is told of the arena -/
structure Seen (w : World) (a : Nat) (v : Value) (ao : Option Addr) (cap : Nat) (L : List RBlk) : Prop where
  lt : a < w.heap.size
  sl : w.cell? ⟨a, 4, none⟩ = some v
  is : v = .slice ao L.length cap
  small : L.length ≤ 9223372036854775807
  cell : ∀ k (h : k < L.length), ∃ g, ao = some ⟨g, 0, none⟩ ∧ g < w.heap.size ∧ ∀ j, j < 5 → w.cell? ⟨g, k * 5 + j, none⟩ = (L[k].enc)[j]?
  fr : 0 < L.length → ∀ g, ao = some ⟨g, 0, none⟩ → ∀ j, w.frozen? ⟨g, j, none⟩ = false
theorem ref_seen {w : World} {a : Nat} {B : Nat → Int} {L : List RBlk} {F : Asr} (h : Holds w (refA a B L * F)) : ∃ v ao cap, Seen w a v ao cap L ∧ Holds w (hd a B v * (rowL 120 5 RBlk.enc v L * (big RBlk.own L * F))) := by
  obtain ⟨v, hv⟩ := ref_open h
  obtain ⟨ao, cap, e, hc⟩ := rowA_slice (hv.eqv (star_left_comm _ _ _))
  have hs : L.length ≤ 9223372036854775807 := by
    rcases (rowA_cases (hv.eqv (star_left_comm _ _ _) : Holds w (rowA _ 5 v L.length _ * _))).2 with ⟨-, h0, -⟩ | ⟨_, _, _, -, h1, h2, -⟩
    · omega
    · unfold maxLen at h2; omega
  refine ⟨v, ao, cap, ⟨hv.lt, hv.cell 4, e, hs, fun k hk => ?_, fun h0 g hg j => ?_⟩, hv⟩
  rotate_left
  · obtain ⟨g', cap', e', -, -, -, hf⟩ := rowL_cell (hv.eqv (star_left_comm _ _ _)) enc_len 0 h0
    rw [e, hg] at e'
    simp at e'
    rw [e'.1]; exact hf j
  obtain ⟨g, cap', e', -, hg, hcell, -⟩ := rowL_cell (hv.eqv (star_left_comm _ _ _)) enc_len k hk
  rw [e] at e'
  simp at e'
  exact ⟨g, e'.1, hg, hcell⟩

set_option maxHeartbeats 2000000 in
theorem find_calls (a : Nat) (B : Nat → Int) (L : List RBlk) (F : Asr) (c i : Int) (w : World) (hw : Holds w (refA a B L * F)) :
    Calls Try.prog 92 #[.pointer (some ⟨a, 0, none⟩), .int .i64 c, .int .i64 i] w fun e w' => e = .returned (.int .i64 (findL L c i)) ∧ w = w' := by
  obtain ⟨v, ao, cap, S, -⟩ := ref_seen hw
  obtain rfl := S.is
  have h1 := S.lt
  have h2 := S.sl
  have h3 := S.small
  have HC := Lib.hid S.cell
  clear S hw
  go_enter Try.func92, Try.ntmps92
  go_wp2_with fail
  go_loop [7] (fun x => ∃ k : Nat, k ≤ L.length ∧ x = .int .i64 k ∧ Hid (∀ j (h : j < k) (h' : j < L.length), ¬ (L[j].c = c ∧ L[j].i = i))) (fun x => L.length - (intOf x).toNat)
  case atStart => exact ⟨0, Nat.zero_le _, rfl, fun j h => by omega⟩
  case round =>
    obtain ⟨k, hk, rfl, hno⟩ := hrel
    by_cases hlt : k < L.length
    · obtain ⟨g, rfl, hg, hcell⟩ := HC.out k hlt
      have k0 := hcell 0 (by omega)
      have k1 := hcell 1 (by omega)
      simp only [RBlk.enc, Nat.add_zero, List.getElem?_cons_zero, List.getElem?_cons_succ] at k0 k1
      have e0 : (0 : Int) ≤ (k : Int) := by omega
      have e1 : (k : Int) < (L.length : Int) := by omega
      clear hcell
      by_cases hc : L[k].c = c
      · by_cases hi : L[k].i = i
        · have d0 : (L[k].c == c) = true := by simpa using hc
          have d1 : (L[k].i == i) = true := by simpa using hi
          have R := Lib.hid (find_at L c i k hlt ⟨hc, hi⟩ fun j h => hno.out j h (by omega))
          clear hc hi
          go_wp2_with fail
          go_ret
          exact ⟨by rw [R.out]; rfl, rfl⟩
        · have d0 : (L[k].c == c) = true := by simpa using hc
          have d1 : (L[k].i == i) = false := by simpa using hi
          have hno' : Hid (∀ j (h : j < k + 1) (h' : j < L.length), ¬ (L[j].c = c ∧ L[j].i = i)) := by
            intro j h h'
            by_cases e : j = k
            · subst e; exact fun ⟨_, q⟩ => hi q
            · exact hno.out j (by omega) h'
          clear hc hi
          go_wp2_with fail
          go_round
          case rel => exact ⟨k + 1, by omega, by go_num, hno'⟩
          case measure => simp [intOf]; omega
      · have d0 : (L[k].c == c) = false := by simpa using hc
        have hno' : Hid (∀ j (h : j < k + 1) (h' : j < L.length), ¬ (L[j].c = c ∧ L[j].i = i)) := by
          intro j h h'
          by_cases e : j = k
          · subst e; exact fun ⟨q, _⟩ => hc q
          · exact hno.out j (by omega) h'
        clear hc
        go_wp2_with fail
        go_round
        case rel => exact ⟨k + 1, by omega, by go_num, hno'⟩
        case measure => simp [intOf]; omega
    · obtain rfl : L.length = k := by omega
      have R := Lib.hid (find_no L c i fun j h => hno.out j h h)
      go_wp2_with fail
      go_ret
      exact ⟨by rw [R.out]; rfl, rfl⟩
#print axioms find_calls

def toI : Option Nat → Int
  | some k => k
  | none => -1
def findI (L : List RBlk) (c i : Int) : Option Nat := L.findIdx? (fun b => b.c == c && b.i == i)
theorem findL_eq (L : List RBlk) (c i : Int) : findL L c i = toI (findI L c i) := by unfold findL findI toI; split <;> simp_all
theorem findI_lt {L : List RBlk} {c i : Int} {k : Nat} (h : findI L c i = some k) : k < L.length := (List.findIdx?_eq_some_iff_getElem.1 h).1
def rightI (L : List RBlk) (c i g : Int) : Option Nat := (findI L c i).filter fun k => match L[k]? with
  | some b => b.h != 0 && b.g == g
  | none => false
theorem rightI_lt {L : List RBlk} {c i g : Int} {k : Nat} (h : rightI L c i g = some k) : k < L.length := findI_lt (Option.filter_eq_some_iff.1 h).1

set_option maxHeartbeats 2000000 in
theorem right_calls (a : Nat) (B : Nat → Int) (L : List RBlk) (F : Asr) (c i g : Int) (w : World) (hw : Holds w (refA a B L * F)) :
    Calls Try.prog 75 #[.pointer (some ⟨a, 0, none⟩), .int .i64 c, .int .i64 i, .int .i64 g] w fun e w' => e = .returned (.int .i64 (toI (rightI L c i g))) ∧ w = w' := by
  obtain ⟨v, ao, cap, S, -⟩ := ref_seen hw
  obtain rfl := S.is
  have h1 := S.lt
  have h2 := S.sl
  have FD := Lib.hid (findL_eq L c i ▸ find_calls a B L F c i w hw)
  cases hf : findI L c i with
  | none =>
    have R : Hid (rightI L c i g = none) := by show _ = _; simp [rightI, hf]
    rw [hf] at FD
    simp only [toI] at FD
    clear S hw hf
    go_enter Try.func75, Try.ntmps75
    go_wp2_with (go_at_call 92; refine (FD.out).mono ?_; rintro e w' ⟨rfl, rfl⟩)
    go_ret
    exact ⟨by rw [R.out]; rfl, rfl⟩
  | some k =>
    have hk := findI_lt hf
    obtain ⟨gb, rfl, hg, hcell⟩ := S.cell k hk
    have k2 := hcell 2 (by omega)
    have k3 := hcell 3 (by omega)
    simp only [RBlk.enc, List.getElem?_cons_zero, List.getElem?_cons_succ] at k2 k3
    have e0 : (0 : Int) ≤ (k : Int) := by omega
    have e1 : (k : Int) < (L.length : Int) := by omega
    have e2 : decide ((k : Int) < 0) = false := by simp
    have R : Hid (rightI L c i g = if L[k].h != 0 && L[k].g == g then some k else none) := by
      show _ = _
      simp only [rightI, hf, Option.filter, List.getElem?_eq_getElem hk]
    rw [hf] at FD
    simp only [toI] at FD
    clear S hw hf hcell
    by_cases hh : L[k].h = 0
    · have d0 : (L[k].h == 0) = true := by simpa using hh
      have R' : Hid (rightI L c i g = none) := by show _ = _; rw [R.out, if_neg (by simp [hh])]
      clear hh R
      go_enter Try.func75, Try.ntmps75
      go_wp2_with (go_at_call 92; refine (FD.out).mono ?_; rintro e w' ⟨rfl, rfl⟩)
      go_ret
      exact ⟨by rw [R'.out]; rfl, rfl⟩
    · have d0 : (L[k].h == 0) = false := by simpa using hh
      by_cases hgg : L[k].g = g
      · have d1 : (L[k].g != g) = false := by simpa using hgg
        have R' : Hid (rightI L c i g = some k) := by show _ = _; rw [R.out, if_pos (by simp [hh, hgg])]
        clear hh hgg R
        go_enter Try.func75, Try.ntmps75
        go_wp2_with (go_at_call 92; refine (FD.out).mono ?_; rintro e w' ⟨rfl, rfl⟩)
        go_ret
        exact ⟨by rw [R'.out]; rfl, rfl⟩
      · have d1 : (L[k].g != g) = true := by simpa using hgg
        have R' : Hid (rightI L c i g = none) := by show _ = _; rw [R.out, if_neg (by simp [hgg])]
        clear hh hgg R
        go_enter Try.func75, Try.ntmps75
        go_wp2_with (go_at_call 92; refine (FD.out).mono ?_; rintro e w' ⟨rfl, rfl⟩)
        go_ret
        exact ⟨by rw [R'.out]; rfl, rfl⟩
#print axioms right_calls

def heldL (L : List RBlk) (c i g : Int) : Int := match rightI L c i g with
  | some k => (L.getD k ⟨0, 0, 0, 0, none, []⟩).h
  | none => 0

theorem rowL_store1 {α : Type _} {T : TypeId} {sz : Nat} {enc : α → List Value} {g cap : Nat} {l : List α} {F : Asr} {w : World} (h : Holds w (rowL T sz enc (.slice (some ⟨g, 0, none⟩) l.length cap) l * F)) (he : ∀ x, (enc x).length = sz) (i j : Nat) (hi : i < l.length) (hj : j < sz) (v : Value) (x : α) (hx : enc x = (enc l[i]).set j v) :
    Holds (w.setCell ⟨g, i * sz + j, none⟩ v) (rowL T sz enc (.slice (some ⟨g, 0, none⟩) l.length cap) (l.set i x) * F) := by
  unfold rowL at h ⊢
  have h1 := rowA_store h (i * sz + j) (by have : (i + 1) * sz ≤ l.length * sz := Nat.mul_le_mul_right _ hi; rw [Nat.add_mul] at this; omega) v
  have e : (l.flatMap enc).set (i * sz + j) v = (l.set i x).flatMap enc := by
    have := congrArg Array.toList (flat_set he i j hi hj v x hx)
    simpa [flat, Array.toList_setIfInBounds] using this
  rw [e] at h1
  simpa using h1
theorem ref_set1 {w : World} {a g cap : Nat} {B : Nat → Int} {L : List RBlk} {F : Asr} (h : Holds w (hd a B (.slice (some ⟨g, 0, none⟩) L.length cap) * (rowL 120 5 RBlk.enc (.slice (some ⟨g, 0, none⟩) L.length cap) L * (big RBlk.own L * F)))) (k j : Nat) (hk : k < L.length) (hj : j < 5) (v : Value) (b : RBlk) (he : b.enc = (L[k].enc).set j v) (ho : b.own = L[k].own) :
    Holds (w.setCell ⟨g, k * 5 + j, none⟩ v) (refA a B (L.set k b) * F) := by
  have h1 := rowL_store1 (h.eqv (star_left_comm _ _ _)) enc_len k j hk hj v b he
  refine ref_shut (v := .slice (some ⟨g, 0, none⟩) L.length cap) (h1.eqv ?_)
  rw [big_set _ _ _ _ hk, ho, ← big_at _ _ _ hk]
  ac_rfl

structure RDid where
  L : List RBlk
  e : Int
def holdL (L : List RBlk) (c i g : Int) : RDid := match rightI L c i g with
  | some k => let b := L.getD k ⟨0, 0, 0, 0, none, []⟩
    if b.h = 1048576 then ⟨L, 3⟩ else ⟨L.set k { b with h := wrap64 (b.h + 1) }, 0⟩
  | none => ⟨L, 15⟩
def dropL (L : List RBlk) (c i g : Int) : RDid := match rightI L c i g with
  | some k => let b := L.getD k ⟨0, 0, 0, 0, none, []⟩
    ⟨L.set k { b with h := wrap64 (b.h - 1) }, 0⟩
  | none => ⟨L, 15⟩

set_option maxHeartbeats 2000000 in
theorem hold_calls (a : Nat) (B : Nat → Int) (L : List RBlk) (F : Asr) (c i g : Int) (w : World) (hw : Holds w (refA a B L * F)) :
    Calls Try.prog 55 #[.pointer (some ⟨a, 0, none⟩), .int .i64 c, .int .i64 i, .int .i64 g] w fun e w' => e = .returned (.int .i64 (holdL L c i g).e) ∧ Holds w' (refA a B (holdL L c i g).L * F) ∧ Sm w w' := by
  obtain ⟨v, ao, cap, S, hv⟩ := ref_seen hw
  obtain rfl := S.is
  have h1 := S.lt
  have h2 := S.sl
  have FD := Lib.hid (right_calls a B L F c i g w hw)
  have HW := Lib.hid hw
  have HV := Lib.hid hv
  clear hv hw
  cases hf : rightI L c i g with
  | none =>
    have R : Hid (holdL L c i g = ⟨L, 15⟩) := by show _ = _; simp [holdL, hf]
    rw [hf] at FD
    simp only [toI] at FD
    clear S hf
    go_enter Try.func55, Try.ntmps55
    go_wp2_with (go_at_call 75; refine (FD.out).mono ?_; rintro e w' ⟨rfl, rfl⟩)
    go_ret
    exact ⟨by rw [R.out]; rfl, by rw [R.out]; exact HW.out, Sm.refl _⟩
  | some k =>
    have hk := rightI_lt hf
    obtain ⟨gb, rfl, hg, hcell⟩ := S.cell k hk
    have hfz := S.fr (by omega) gb rfl (k * 5 + 3)
    have k3 := hcell 3 (by omega)
    simp only [RBlk.enc, List.getElem?_cons_zero, List.getElem?_cons_succ] at k3
    have e0 : (0 : Int) ≤ (k : Int) := by omega
    have e1 : (k : Int) < (L.length : Int) := by omega
    have e2 : decide ((k : Int) < 0) = false := by simp
    have R : Hid (holdL L c i g = if L[k].h = 1048576 then ⟨L, 3⟩ else ⟨L.set k { L[k] with h := wrap64 (L[k].h + 1) }, 0⟩) := by show _ = _; simp [holdL, hf, hk]
    rw [hf] at FD
    simp only [toI] at FD
    clear S hf hcell
    by_cases hh : L[k].h = 1048576
    · have d0 : (L[k].h == 1048576) = true := by simpa using hh
      have R' : Hid (holdL L c i g = ⟨L, 3⟩) := by show _ = _; rw [R.out, if_pos hh]
      clear hh R
      go_enter Try.func55, Try.ntmps55
      go_wp2_with (go_at_call 75; refine (FD.out).mono ?_; rintro e w' ⟨rfl, rfl⟩)
      go_ret
      exact ⟨by rw [R'.out]; rfl, by rw [R'.out]; exact HW.out, Sm.refl _⟩
    · have d0 : (L[k].h == 1048576) = false := by simpa using hh
      have R' : Hid (holdL L c i g = ⟨L.set k { L[k] with h := wrap64 (L[k].h + 1) }, 0⟩) := by show _ = _; rw [R.out, if_neg hh]
      have ST := Lib.hid (ref_set1 HV.out k 3 hk (by omega) (.int .i64 (wrap64 (L[k].h + 1))) { L[k] with h := wrap64 (L[k].h + 1) } rfl rfl)
      clear hh R
      go_enter Try.func55, Try.ntmps55
      go_wp2_with (go_at_call 75; refine (FD.out).mono ?_; rintro e w' ⟨rfl, rfl⟩)
      go_ret
      exact ⟨by rw [R'.out]; rfl, by rw [R'.out]; exact ST.out, (Sm.refl _).setCell _ _⟩
#print axioms hold_calls
set_option maxHeartbeats 2000000 in
theorem drop_calls (a : Nat) (B : Nat → Int) (L : List RBlk) (F : Asr) (c i g : Int) (w : World) (hw : Holds w (refA a B L * F)) :
    Calls Try.prog 52 #[.pointer (some ⟨a, 0, none⟩), .int .i64 c, .int .i64 i, .int .i64 g] w fun e w' => e = .returned (.int .i64 (dropL L c i g).e) ∧ Holds w' (refA a B (dropL L c i g).L * F) ∧ Sm w w' := by
  obtain ⟨v, ao, cap, S, hv⟩ := ref_seen hw
  obtain rfl := S.is
  have h1 := S.lt
  have h2 := S.sl
  have FD := Lib.hid (right_calls a B L F c i g w hw)
  have HW := Lib.hid hw
  have HV := Lib.hid hv
  clear hv hw
  cases hf : rightI L c i g with
  | none =>
    have R : Hid (dropL L c i g = ⟨L, 15⟩) := by show _ = _; simp [dropL, hf]
    rw [hf] at FD
    simp only [toI] at FD
    clear S hf
    go_enter Try.func52, Try.ntmps52
    go_wp2_with (go_at_call 75; refine (FD.out).mono ?_; rintro e w' ⟨rfl, rfl⟩)
    go_ret
    exact ⟨by rw [R.out]; rfl, by rw [R.out]; exact HW.out, Sm.refl _⟩
  | some k =>
    have hk := rightI_lt hf
    obtain ⟨gb, rfl, hg, hcell⟩ := S.cell k hk
    have hfz := S.fr (by omega) gb rfl (k * 5 + 3)
    have k3 := hcell 3 (by omega)
    simp only [RBlk.enc, List.getElem?_cons_zero, List.getElem?_cons_succ] at k3
    have e0 : (0 : Int) ≤ (k : Int) := by omega
    have e1 : (k : Int) < (L.length : Int) := by omega
    have e2 : decide ((k : Int) < 0) = false := by simp
    have R : Hid (dropL L c i g = ⟨L.set k { L[k] with h := wrap64 (L[k].h - 1) }, 0⟩) := by show _ = _; simp [dropL, hf, hk]
    have ST := Lib.hid (ref_set1 HV.out k 3 hk (by omega) (.int .i64 (wrap64 (L[k].h - 1))) { L[k] with h := wrap64 (L[k].h - 1) } rfl rfl)
    rw [hf] at FD
    simp only [toI] at FD
    clear S hf hcell
    go_enter Try.func52, Try.ntmps52
    go_wp2_with (go_at_call 75; refine (FD.out).mono ?_; rintro e w' ⟨rfl, rfl⟩)
    go_ret
    exact ⟨by rw [R.out]; rfl, by rw [R.out]; exact ST.out, (Sm.refl _).setCell _ _⟩
#print axioms drop_calls
end Go.Proofs.Ytefcinifaaablaa.Ref15
