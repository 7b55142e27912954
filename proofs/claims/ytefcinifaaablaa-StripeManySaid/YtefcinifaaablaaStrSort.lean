/-
  Layer 17: slices.SortFunc of names by their keys.
-/
import Derived.Test.YtefcinifaaablaaStr6
import Derived.Test.YtefcinifaaablaaShelf
import Derived.Shelf.SlSortCmp.NoneTotal
import Derived.Shelf.Small.Strs
namespace Go.Proofs.Ytefcinifaaablaa.Stripe
open Go.RowKit
open Go.Sep (Asr pts rowA Sm)
open Go.Sort (grow alloc_eq_grow grow_grow)
set_option maxRecDepth 100000
set_option linter.unusedVariables false
set_option linter.unusedSimpArgs false

def nE (t : Int) (k : List UInt8) : List Value := [.int .i64 t, .string (ks k)]
theorem nE_len (t : Int) (k : List UInt8) : (nE t k).length = 2 := rfl
def cb (x y : List UInt8) : Int := Go.Lib.compareBytes x y
theorem cb_self : ∀ x, cb x x = 0
  | [] => rfl
  | a :: x => by
    have h1 : ¬ a < a := UInt8.lt_irrefl a
    show (if a < a then (-1 : Int) else if a < a then 1 else cb x x) = 0
    rw [if_neg h1, if_neg h1, cb_self x]
theorem cb_cons (a b : UInt8) (x y : List UInt8) : cb (a :: x) (b :: y) = if a < b then -1 else if b < a then 1 else cb x y := rfl
theorem cb_neg : ∀ x y, cb y x = - cb x y
  | [], [] => rfl
  | [], b :: y => rfl
  | a :: x, [] => rfl
  | a :: x, b :: y => by
    rw [cb_cons, cb_cons]
    by_cases h1 : a < b
    · have h2 : ¬ b < a := fun h => UInt8.lt_irrefl a (UInt8.lt_trans h1 h)
      rw [if_neg h2, if_pos h1, if_pos h1]; rfl
    · by_cases h2 : b < a
      · rw [if_pos h2, if_neg h1, if_pos h2]
      · rw [if_neg h2, if_neg h1, if_neg h1, if_neg h2, cb_neg x y]
theorem u8_eq {a b : UInt8} (h1 : ¬ a < b) (h2 : ¬ b < a) : a = b := by
  rw [UInt8.lt_iff_toNat_lt] at h1 h2
  exact UInt8.toNat_inj.1 (by omega)
theorem cb_zero : ∀ x y, cb x y = 0 → x = y
  | [], [], _ => rfl
  | [], b :: y, h => by cases h
  | a :: x, [], h => by cases h
  | a :: x, b :: y, h => by
    rw [cb_cons] at h
    by_cases h1 : a < b
    · rw [if_pos h1] at h; cases h
    · rw [if_neg h1] at h
      by_cases h2 : b < a
      · rw [if_pos h2] at h; cases h
      · rw [if_neg h2] at h
        rw [u8_eq h1 h2, cb_zero x y h]
theorem cb_trans : ∀ x y z, cb x y < 0 → cb y z < 0 → cb x z < 0
  | [], y, [], h1, h2 => by
    cases y with
    | nil => exact h1
    | cons b y => exact absurd h2 (by show ¬ (1 : Int) < 0; omega)
  | [], _, c :: z, _, _ => by show (-1 : Int) < 0; omega
  | a :: x, [], z, h1, _ => absurd h1 (by show ¬ (1 : Int) < 0; omega)
  | a :: x, b :: y, [], _, h2 => absurd h2 (by show ¬ (1 : Int) < 0; omega)
  | a :: x, b :: y, c :: z, h1, h2 => by
    rw [cb_cons] at h1 h2 ⊢
    by_cases p1 : a < b
    · by_cases p2 : b < c
      · rw [if_pos (UInt8.lt_trans p1 p2)]; omega
      · rw [if_neg p2] at h2
        by_cases p3 : c < b
        · rw [if_pos p3] at h2; omega
        · rw [← u8_eq p2 p3, if_pos p1]; omega
    · rw [if_neg p1] at h1
      by_cases p1' : b < a
      · rw [if_pos p1'] at h1; omega
      · rw [if_neg p1'] at h1
        have e := u8_eq p1 p1'
        subst e
        by_cases p2 : a < c
        · rw [if_pos p2]; omega
        · rw [if_neg p2] at h2 ⊢
          by_cases p3 : c < a
          · rw [if_pos p3] at h2; omega
          · rw [if_neg p3] at h2 ⊢
            exact cb_trans x y z h1 h2
theorem cb_lt (x y : List UInt8) : Go.Proofs.ltOf cb x y = decide (cb x y < 0) := rfl
theorem cb_swo : Go.Sort.SWO (Go.Proofs.ltOf cb) where
  irrefl x := by rw [cb_lt, cb_self]; rfl
  trans x y z h1 h2 := by
    rw [cb_lt] at *
    exact decide_eq_true (cb_trans x y z (of_decide_eq_true h1) (of_decide_eq_true h2))
  ntrans x y z h1 h2 := by
    rw [cb_lt] at *
    have p1 := of_decide_eq_false h1
    have p2 := of_decide_eq_false h2
    refine decide_eq_false fun h => ?_
    by_cases e1 : cb x y = 0
    · rw [cb_zero x y e1] at h; exact p2 h
    · by_cases e2 : cb y z = 0
      · rw [← cb_zero y z e2] at h; exact p1 h
      · have q1 : cb y x < 0 := by rw [cb_neg x y]; omega
        have q2 : cb z y < 0 := by rw [cb_neg y z]; omega
        have q3 := cb_trans z y x q2 q1
        rw [cb_neg x z] at q3
        omega
theorem cb_total (x y : List UInt8) (h1 : Go.Proofs.ltOf cb x y = false) (h2 : Go.Proofs.ltOf cb y x = false) : x = y := by
  rw [cb_lt] at *
  have p1 := of_decide_eq_false h1
  have p2 := of_decide_eq_false h2
  rw [cb_neg x y] at p2
  exact cb_zero x y (by omega)
def sortK (L : List (List UInt8)) : List (List UInt8) := L.mergeSort fun x y => !(Go.Proofs.ltOf cb) y x
theorem scanCmp (t : Int) (x y : List UInt8) (W : World) : Calls Try.prog 67 #[.agg #[.int .i64 t, .string (ks x)], .agg #[.int .i64 t, .string (ks y)]] W fun e w' => e = .returned (.int .i64 (cb x y)) ∧ ∃ q os', w' = grow (W.drewN q) os' := by
  have hcon : ∀ W', Calls Try.prog 68 #[.string (ks x), .string (ks y)] W' fun e w' => e = .returned (.int .i64 (cb x y)) ∧ w' = W' := fun W' => by
    have h := Any.strings_Compare Try.lays106 (ks x) (ks y) W'
    have e1 : (ks x).data.toList = x := sk_ks x
    have e2 : (ks y).data.toList = y := sk_ks y
    rw [e1, e2] at h
    exact h
  generalize cb x y = r at hcon ⊢
  obtain ⟨a, ha⟩ : ∃ q, ks x = q := ⟨_, rfl⟩
  obtain ⟨b, hb⟩ : ∃ q, ks y = q := ⟨_, rfl⟩
  rw [ha, hb] at hcon ⊢
  go_enter Try.func67, Try.ntmps67
  go_wp2_with fail
  refine (hcon _).mono ?_
  rintro e w' ⟨rfl, rfl⟩
  go_wp2_with fail
  go_ret
  exact ⟨rfl, 0, _, by rw [alloc_eq_grow, alloc_eq_grow, grow_grow]; rfl⟩
#print axioms scanCmp
theorem flatK_flat {α : Type} [Inhabited α] (enc : α → List Value) (k : Nat) (hk : ∀ x, (enc x).length = k) (h0 : 0 < k) (l : List α) : Go.Sort.flatK enc k l.toArray = Go.Sep.flat enc l := by
  apply Array.ext
  · rw [Go.Sep.flat_size hk]; simp
  · intro t h1 h2
    have ht : t < l.length * k := by simpa using h1
    have hq : t / k < l.length := (Nat.div_lt_iff_lt_mul h0).2 ht
    have hm : t % k < k := Nat.mod_lt _ h0
    have e1 := Go.Sort.get_flatK enc k l.toArray t (by simpa using ht)
    rw [getElem!_pos (Go.Sort.flatK enc k l.toArray) t h1] at e1
    have e2 := Go.Sep.flat_get hk (l := l) (t / k) (t % k) hq hm
    have e3 : t / k * k + t % k = t := by have := Nat.div_add_mod t k; rw [Nat.mul_comm] at this; exact this
    rw [e3, Array.getElem?_eq_getElem h2, List.getElem?_eq_getElem (by rw [hk]; exact hm)] at e2
    rw [e1, Option.some.inj e2]
    rw [getElem!_pos l.toArray (t / k) (by simpa using hq)]
    rw [getElem!_pos (enc l.toArray[t / k]) (t % k) (by rw [hk]; exact hm)]
    simp
def SortC (t : Int) (v : Value) (L : List (List UInt8)) (F : Asr) (w : World) (e : Ending) (w' : World) : Prop := e = .returned (.tuple #[]) ∧ Go.Sep.Holds w' (rowA 74 2 v L.length ((sortK L).flatMap (nE t)) * F) ∧ Sm w w'
theorem sortK_len (L : List (List UInt8)) : (sortK L).length = L.length := List.length_mergeSort _
theorem sort_calls (t : Int) (ao : Option Addr) (cap : Nat) (L : List (List UInt8)) (hL : L.length ≤ 100000000) (F : Asr) (w : World) (hw : Go.Sep.Holds w (rowA 74 2 (.slice ao L.length cap) L.length (L.flatMap (nE t)) * F)) :
    Calls Try.prog 66 #[.slice ao L.length cap, .func (.func 67) #[] #[]] w (SortC t (.slice ao L.length cap) L F w) := by
  rcases Nat.eq_zero_or_pos L.length with h0 | h0
  · have hn : L = [] := List.eq_nil_of_length_eq_zero h0
    subst hn
    refine (show Calls Try.prog 66 #[.slice ao 0 cap, .func (.func 67) #[] #[]] w _ from AnyF.slices_SortFunc_none { Try.laysSort with } ao cap (.func (.func 67) #[] #[]) w).mono ?_
    rintro e w' ⟨rfl, rfl⟩
    exact ⟨rfl, by simpa [sortK] using hw, Sm.refl _⟩
  · obtain ⟨hx, hc⟩ := Go.Sep.rowA_cases hw
    rcases hc with ⟨-, h2, -⟩ | ⟨g, cap2, cur, e1, hnc, hcm, hcs, htake, hg⟩
    · omega
    · simp only [Value.slice.injEq, true_and] at e1
      obtain ⟨rfl, rfl⟩ := e1
      have hcur : ∀ j, j < L.length * 2 → cur[j]? = (Go.Sep.flat (nE t) L)[j]? := by
        intro j hj
        have : (cur.toList.take (L.length * 2))[j]? = (L.flatMap (nE t))[j]? := by rw [htake]
        rw [List.getElem?_take_of_lt hj] at this
        unfold Go.Sep.flat
        simpa using this
      have hH : Go.Sort.HoldsK (nE t) 2 w g 0 L.toArray := by
        unfold Go.Sort.HoldsK Go.Sort.Holds
        rw [flatK_flat (nE t) 2 (nE_len t) (by omega)]
        intro j hj
        rw [Go.Sep.flat_size (nE_len t)] at hj
        refine ⟨?_, hg.frozen _⟩
        rw [Nat.zero_add, hg.cell, hcur j hj, getElem!_pos _ j (by rw [Go.Sep.flat_size (nE_len t)]; exact hj), Array.getElem?_eq_getElem]
        rfl
      have eg : ∀ args w, (callFunc 67 args).run Try.prog w = .ok (.enter 67 args) w := enters_of Try.func67 (by kernel_rfl) rfl
      have hcmp : CmpLays Try.prog 67 #[] (nE t) 2 cb g 0 L.toArray.size w := fun _ _ _ _ x y => scanCmp t x y _
      have hcon := AnyQ.slices_SortFunc_total Try.laysSort 2 Try.isAgg74 Try.sizeOf74 (nE t) (nE_len t) (fun x v hv => by simp [nE] at hv; rcases hv with rfl | rfl <;> rfl) cb cb_swo 67 #[] g 0 cap L.toArray w eg hcmp hH hg.lt (by simp; omega) cb_total
      change Calls Try.prog 66 _ _ _ at hcon
      simp only [List.size_toArray] at hcon
      refine hcon.mono ?_
      rintro e w' ⟨rfl, n, os, rfl⟩
      refine ⟨rfl, ?_, ⟨rfl, rfl, rfl, by simp [sortWorldK, grow, Go.Sort.putRowK, Go.Sort.putRow, Go.Sort.mapBlock]⟩⟩
      have hgl := hg.lt
      have hblk := hg.at
      have hsz : (Go.Sort.flatK (nE t) 2 (sortK L).toArray).size = L.length * 2 := by rw [Go.Sort.size_flatK, List.size_toArray, sortK_len]
      have h5 := hg.upd (w' := sortWorldK (nE t) 2 w g 0 n (sortK L).toArray os) (o' := .cells (Go.Sort.putCells id 0 (Go.Sort.flatK (nE t) 2 (sortK L).toArray) cur) 74 (0, 0)) (by
        unfold sortWorldK grow Go.Sort.putRowK Go.Sort.putRow Go.Sort.mapBlock
        show ((w.heap.modify g _) ++ os)[g]? = _
        rw [Array.getElem?_append_left (by simpa using hgl), Array.getElem?_modify, if_pos rfl, hblk]
        rfl) (fun k hk hlt => by
        unfold sortWorldK grow Go.Sort.putRowK Go.Sort.putRow Go.Sort.mapBlock
        show ((w.heap.modify g _) ++ os)[k]? = _
        rw [Array.getElem?_append_left (by simpa using hlt), Array.getElem?_modify, if_neg (Ne.symm hk)])
      refine Go.Sep.rowA_mk' h5 hnc hcm (by simp [Go.Sort.putCells, hcs]) ?_
      have hfl : (sortK L).flatMap (nE t) = (Go.Sort.flatK (nE t) 2 (sortK L).toArray).toList := by
        rw [flatK_flat (nE t) 2 (nE_len t) (by omega)]
        simp [Go.Sep.flat]
      rw [hfl]
      apply List.ext_getElem?
      intro j
      by_cases hj : j < L.length * 2
      · rw [List.getElem?_take_of_lt hj]
        have hjc : j < cur.size := by rw [hcs]; have := Nat.mul_le_mul_right 2 hnc; omega
        simp only [Go.Sort.putCells, Array.getElem?_toList, Array.getElem?_mapIdx]
        rw [Array.getElem?_eq_getElem hjc, Option.map_some, if_pos ⟨by omega, by rw [hsz]; omega⟩, Nat.sub_zero, Array.getElem?_eq_getElem (by rw [hsz]; exact hj), getElem!_pos _ j (by rw [hsz]; exact hj)]
        rfl
      · rw [List.getElem?_eq_none (by rw [List.length_take]; omega), List.getElem?_eq_none (by rw [Array.length_toList, hsz]; omega)]
#print axioms sort_calls
end Go.Proofs.Ytefcinifaaablaa.Stripe
