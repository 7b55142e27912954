/-
  Layer 17: slots; probe.
-/
import Derived.Test.YtefcinifaaablaaHash
import Derived.Test.YtefcinifaaablaaLib
namespace Go.Proofs.Ytefcinifaaablaa.Stripe
open Go.RowKit Go.Sep
set_option maxRecDepth 100000
set_option linter.unusedVariables false
set_option linter.unusedSimpArgs false

def ks (l : List UInt8) : ByteArray := ⟨l.toArray⟩
def sk (s : ByteArray) : List UInt8 := s.data.toList
theorem sk_ks (l : List UInt8) : sk (ks l) = l := by simp [sk, ks]
theorem ks_sk (s : ByteArray) : ks (sk s) = s := by cases s; simp [sk, ks]
theorem ks_size (l : List UInt8) : (ks l).size = l.length := by simp [ks, ByteArray.size]
theorem sk_len (s : ByteArray) : (sk s).length = s.size := by simp [sk]
structure Sl where
  st : Nat
  t : Int
  k : List UInt8
  v : Int
def e0 : Sl := ⟨0, 0, [], 0⟩
def slE (s : Sl) : List Value := [.int .i64 s.st, .int .i64 s.t, .string (ks s.k), .int .i64 s.v]
theorem slE_len (s : Sl) : (slE s).length = 4 := rfl
def slA (g : Nat) (l : List Sl) : Asr := pts g (.cells (flat slE l) 142 (0, 0))
structure SlF (w : World) (g j : Nat) (s : Sl) : Prop where
  c0 : w.cell? ⟨g, j * 4, none⟩ = some (.int .i64 s.st)
  c1 : w.cell? ⟨g, j * 4 + 1, none⟩ = some (.int .i64 s.t)
  c2 : w.cell? ⟨g, j * 4 + 2, none⟩ = some (.string (ks s.k))
  c3 : w.cell? ⟨g, j * 4 + 3, none⟩ = some (.int .i64 s.v)
  fz : ∀ o, w.frozen? ⟨g, o, none⟩ = false
  lt : g < w.heap.size
theorem sl_f {w : World} {g : Nat} {l : List Sl} {F : Asr} (h : Holds w (slA g l * F)) (j : Nat) (hj : j < l.length) : SlF w g j l[j] := by
  have c := h.cell
  have f : ∀ i, i < 4 → (flat slE l)[j * 4 + i]? = (slE l[j])[i]? := fun i hi => flat_get slE_len j i hj hi
  refine ⟨?_, ?_, ?_, ?_, h.frozen, h.lt⟩
  · rw [c, show j * 4 = j * 4 + 0 from rfl, f 0 (by omega)]; rfl
  · rw [c, f 1 (by omega)]; rfl
  · rw [c, f 2 (by omega)]; rfl
  · rw [c, f 3 (by omega)]; rfl
/-- the number of a name -/
def hN (t : Int) (k : List UInt8) : Nat := hashN (hb t (ks k))
theorem hN_lt (t : Int) (k : List UInt8) : hN t k < 4294967296 := hashN_lt _
def prbF (l : List Sl) (a : Nat) (p : Sl → Bool) : Nat → Nat → Option Nat
  | _, 0 => none
  | i, m + 1 => if p (l.getD ((a + i) % l.length) e0) = true then some ((a + i) % l.length) else prbF l a p (i + 1) m
def at0 (l : List Sl) (t : Int) (k : List UInt8) : Nat := hN t k / 256 % max l.length 1
def prb (l : List Sl) (t : Int) (k : List UInt8) (p : Sl → Bool) : Option Nat := prbF l (at0 l t k) p 0 l.length
def ptr (g : Nat) : Option Nat → Value
  | none => .pointer none
  | some j => .pointer (some ⟨g, j * 4, none⟩)
def ProbeC (g : Nat) (R : Option Nat) (w : World) (e : Ending) (w' : World) : Prop := e = .returned (ptr g R) ∧ Below w.heap.size w w'
set_option maxHeartbeats 8000000 in
theorem probe_calls (g : Nat) (l : List Sl) (h0 : 0 < l.length) (hl : l.length ≤ 100000) (t : Int) (k : List UInt8) (hk : k.length ≤ 1000) (p : Sl → Bool) (F : Asr)
    (CL : ∀ (j : Nat) (hj : j < l.length) (wq : World), Holds wq (slA g l * F) → Calls Try.prog 84 #[.pointer (some ⟨g, j * 4, none⟩)] wq fun e w' => e = .returned (.bool (p l[j])) ∧ Below wq.heap.size wq w')
    (w : World) (hw : Holds w (slA g l * F)) :
    Calls Try.prog 83 #[.slice (some ⟨g, 0, none⟩) l.length l.length, .agg #[.int .i64 t, .string (ks k)], .func (.func 84) #[] #[]] w (ProbeC g (prb l t k p) w) := by
  have HC := Lib.hid (fun wq => hash_calls t (ks k) wq (by rw [ks_size]; exact hk))
  have HH := Lib.hid hw
  have HCL := Lib.hid CL
  obtain ⟨R, hR⟩ : ∃ q, prb l t k p = q := ⟨_, rfl⟩
  rw [hR]
  have HLT : hashN (hb t (ks k)) < 4294967296 := hashN_lt _
  have HR : Hid (prbF l (hashN (hb t (ks k)) / 256 % max l.length 1) p 0 l.length = R) := hR
  obtain ⟨H, hH⟩ : ∃ q, hashN (hb t (ks k)) = q := ⟨_, rfl⟩
  rw [hH] at HC HLT HR
  obtain ⟨N, hN⟩ : ∃ q, ks k = q := ⟨_, rfl⟩
  rw [hN] at HC ⊢
  have B0 : Hid (Below w.heap.size w (w.alloc (.cells #[.int .i64 t, .string N] 74))) := (Below.refl _ w).alloc (Nat.le_refl _) _
  obtain ⟨n, hn⟩ : ∃ q, l.length = q := ⟨_, rfl⟩
  have HN := Lib.hid hn
  rw [hn] at hl HR h0 ⊢
  rw [Nat.max_eq_left h0] at HR
  obtain ⟨A, hA⟩ : ∃ q, H / 256 % n = q := ⟨_, rfl⟩
  have hAn : A < n := by rw [← hA]; exact Nat.mod_lt _ h0
  have eA : (H : Int) / 256 % (n : Int) = (A : Int) := by rw [← hA]; rfl
  rw [hA] at HR
  have x0 : (1 : Int) ≤ (n : Int) := by omega
  have x1 : ¬ (n : Int) < 1 := by omega
  have x2 : decide ((n : Int) < 1) = false := decide_eq_false x1
  have x3 : max (n : Int) 1 = (n : Int) := by omega
  have x4 : (n : Int) ≠ 0 := by omega
  have x5 : ((n : Int) == 0) = false := beq_eq_false_iff_ne.2 x4
  clear hA
  clear hw CL hR hH hN hn
  go_enter Try.func83, Try.ntmps83
  go_wp2_with fail
  refine (HC.out _).mono ?_
  rintro e w1 ⟨rfl, b1⟩
  have B1 : Hid (Below w.heap.size w w1) := B0.out.trans (b1.mono B0.out.size)
  clear b1 HC B0
  go_wp2_with fail
  try rw [eA]
  go_loopw [20] (fun x wl => ∃ i : Nat, x = .int .i64 i ∧ i ≤ n ∧ Hid (prbF l A p i (n - i) = R) ∧ Hid (Below w.heap.size w wl)) (fun x _ => n - (intOf x).toNat)
  case atStart => exact ⟨0, rfl, Nat.zero_le _, HR.out, B1.out⟩
  case round =>
    clear B1 HR
    obtain ⟨i, rfl, hi, HR, HB⟩ := hrel
    by_cases hin : i < n
    · obtain ⟨m, hm⟩ : ∃ m, n - i = m + 1 := ⟨n - i - 1, by omega⟩
      have hR := HR.out
      rw [hm, prbF, HN.out] at hR
      have hj : (A + i) % n < n := Nat.mod_lt _ (by omega)
      obtain ⟨j, hj2⟩ : ∃ q, (A + i) % n = q := ⟨_, rfl⟩
      have z1 : IntKind.i64.wrap ((A : Int) + (i : Int)) = (A : Int) + (i : Int) := IntWalk.i64_in _ (by omega)
      have z2 : ((A : Int) + (i : Int)) % (n : Int) = (j : Int) := by rw [← hj2]; rfl
      have z3 : Int.tmod ((A : Int) + (i : Int)) (n : Int) = (j : Int) := by rw [← hj2]; rfl
      have z4 : IntKind.i64.wrap (j : Int) = (j : Int) := IntWalk.i64_in _ (by omega)
      rw [hj2] at hj hR
      have hjl : j < l.length := by rw [HN.out]; exact hj
      have CC := Lib.hid (HCL.out j hjl wr (HH.out.grow HB.out))
      rw [List.getD_eq_getElem?_getD, List.getElem?_eq_getElem hjl, Option.getD_some] at hR
      have i0 : (0 : Int) ≤ (j : Int) := by omega
      have i1 : (j : Int) < (n : Int) := by omega
      have t1 : decide ((i : Int) < (n : Int)) = true := decide_eq_true (by omega)
      have t1' : decide (i < n) = true := decide_eq_true hin
      have hm2 : n - (i + 1) = m := by omega
      cases hp : p l[j] with
      | true =>
        rw [hp] at CC
        rw [hp, if_pos rfl] at hR
        clear hp hj2
        subst hR
        go_wp2_with fail
        refine (CC.out).mono ?_
        rintro e w2 ⟨rfl, b2⟩
        have B2 : Hid (Below w.heap.size w w2) := HB.out.trans (b2.mono HB.out.size)
        clear b2 CC
        go_wp2_with fail
        go_ret
        exact ⟨rfl, B2.out⟩
      | false =>
        rw [hp] at CC
        rw [hp, if_neg (by simp)] at hR
        have HR2 : Hid (prbF l A p (i + 1) (n - (i + 1)) = R) := by rw [← hm2] at hR; exact hR
        clear hp hj2 hR
        go_wp2_with fail
        refine (CC.out).mono ?_
        rintro e w2 ⟨rfl, b2⟩
        have B2 : Hid (Below w.heap.size w w2) := HB.out.trans (b2.mono HB.out.size)
        clear b2 CC
        go_wp2_with fail
        go_roundw
        case rel => exact ⟨i + 1, by go_num, by omega, HR2.out, B2.out⟩
        case measure => simp [intOf]; omega
    · obtain rfl : i = n := by omega
      have hR := HR.out
      rw [Nat.sub_self, prbF] at hR
      subst hR
      have t1 : decide ((i : Int) < (i : Int)) = false := decide_eq_false (by omega)
      go_wp2_with fail
      go_ret
      exact ⟨rfl, HB.out⟩
#print axioms probe_calls
set_option maxHeartbeats 8000000 in
theorem probeS_calls (g bn : Nat) (l : List Sl) (h0 : 0 < l.length) (hl : l.length ≤ 100000) (t : Int) (k : List UInt8) (hk : k.length ≤ 1000) (p : Sl → Bool) (F : Asr)
    (CL : ∀ (j : Nat) (hj : j < l.length) (wq : World), Holds wq (slA g l * F) → Calls Try.prog 109 #[.pointer (some ⟨g, j * 4, none⟩), .pointer (some ⟨bn, 0, none⟩)] wq fun e w' => e = .returned (.bool (p l[j])) ∧ Below wq.heap.size wq w')
    (w : World) (hw : Holds w (slA g l * F)) :
    Calls Try.prog 83 #[.slice (some ⟨g, 0, none⟩) l.length l.length, .agg #[.int .i64 t, .string (ks k)], .func (.func 109) #[] #[.pointer (some ⟨bn, 0, none⟩)]] w (ProbeC g (prb l t k p) w) := by
  have HC := Lib.hid (fun wq => hash_calls t (ks k) wq (by rw [ks_size]; exact hk))
  have HH := Lib.hid hw
  have HCL := Lib.hid CL
  obtain ⟨R, hR⟩ : ∃ q, prb l t k p = q := ⟨_, rfl⟩
  rw [hR]
  have HLT : hashN (hb t (ks k)) < 4294967296 := hashN_lt _
  have HR : Hid (prbF l (hashN (hb t (ks k)) / 256 % max l.length 1) p 0 l.length = R) := hR
  obtain ⟨H, hH⟩ : ∃ q, hashN (hb t (ks k)) = q := ⟨_, rfl⟩
  rw [hH] at HC HLT HR
  obtain ⟨N, hN⟩ : ∃ q, ks k = q := ⟨_, rfl⟩
  rw [hN] at HC ⊢
  have B0 : Hid (Below w.heap.size w (w.alloc (.cells #[.int .i64 t, .string N] 74))) := (Below.refl _ w).alloc (Nat.le_refl _) _
  obtain ⟨n, hn⟩ : ∃ q, l.length = q := ⟨_, rfl⟩
  have HN := Lib.hid hn
  rw [hn] at hl HR h0 ⊢
  rw [Nat.max_eq_left h0] at HR
  obtain ⟨A, hA⟩ : ∃ q, H / 256 % n = q := ⟨_, rfl⟩
  have hAn : A < n := by rw [← hA]; exact Nat.mod_lt _ h0
  have eA : (H : Int) / 256 % (n : Int) = (A : Int) := by rw [← hA]; rfl
  rw [hA] at HR
  have x0 : (1 : Int) ≤ (n : Int) := by omega
  have x1 : ¬ (n : Int) < 1 := by omega
  have x2 : decide ((n : Int) < 1) = false := decide_eq_false x1
  have x3 : max (n : Int) 1 = (n : Int) := by omega
  have x4 : (n : Int) ≠ 0 := by omega
  have x5 : ((n : Int) == 0) = false := beq_eq_false_iff_ne.2 x4
  clear hA
  clear hw CL hR hH hN hn
  go_enter Try.func83, Try.ntmps83
  go_wp2_with fail
  refine (HC.out _).mono ?_
  rintro e w1 ⟨rfl, b1⟩
  have B1 : Hid (Below w.heap.size w w1) := B0.out.trans (b1.mono B0.out.size)
  clear b1 HC B0
  go_wp2_with fail
  try rw [eA]
  go_loopw [20] (fun x wl => ∃ i : Nat, x = .int .i64 i ∧ i ≤ n ∧ Hid (prbF l A p i (n - i) = R) ∧ Hid (Below w.heap.size w wl)) (fun x _ => n - (intOf x).toNat)
  case atStart => exact ⟨0, rfl, Nat.zero_le _, HR.out, B1.out⟩
  case round =>
    clear B1 HR
    obtain ⟨i, rfl, hi, HR, HB⟩ := hrel
    by_cases hin : i < n
    · obtain ⟨m, hm⟩ : ∃ m, n - i = m + 1 := ⟨n - i - 1, by omega⟩
      have hR := HR.out
      rw [hm, prbF, HN.out] at hR
      have hj : (A + i) % n < n := Nat.mod_lt _ (by omega)
      obtain ⟨j, hj2⟩ : ∃ q, (A + i) % n = q := ⟨_, rfl⟩
      have z1 : IntKind.i64.wrap ((A : Int) + (i : Int)) = (A : Int) + (i : Int) := IntWalk.i64_in _ (by omega)
      have z2 : ((A : Int) + (i : Int)) % (n : Int) = (j : Int) := by rw [← hj2]; rfl
      have z3 : Int.tmod ((A : Int) + (i : Int)) (n : Int) = (j : Int) := by rw [← hj2]; rfl
      have z4 : IntKind.i64.wrap (j : Int) = (j : Int) := IntWalk.i64_in _ (by omega)
      rw [hj2] at hj hR
      have hjl : j < l.length := by rw [HN.out]; exact hj
      have CC := Lib.hid (HCL.out j hjl wr (HH.out.grow HB.out))
      rw [List.getD_eq_getElem?_getD, List.getElem?_eq_getElem hjl, Option.getD_some] at hR
      have i0 : (0 : Int) ≤ (j : Int) := by omega
      have i1 : (j : Int) < (n : Int) := by omega
      have t1 : decide ((i : Int) < (n : Int)) = true := decide_eq_true (by omega)
      have t1' : decide (i < n) = true := decide_eq_true hin
      have hm2 : n - (i + 1) = m := by omega
      cases hp : p l[j] with
      | true =>
        rw [hp] at CC
        rw [hp, if_pos rfl] at hR
        clear hp hj2
        subst hR
        go_wp2_with fail
        refine (CC.out).mono ?_
        rintro e w2 ⟨rfl, b2⟩
        have B2 : Hid (Below w.heap.size w w2) := HB.out.trans (b2.mono HB.out.size)
        clear b2 CC
        go_wp2_with fail
        go_ret
        exact ⟨rfl, B2.out⟩
      | false =>
        rw [hp] at CC
        rw [hp, if_neg (by simp)] at hR
        have HR2 : Hid (prbF l A p (i + 1) (n - (i + 1)) = R) := by rw [← hm2] at hR; exact hR
        clear hp hj2 hR
        go_wp2_with fail
        refine (CC.out).mono ?_
        rintro e w2 ⟨rfl, b2⟩
        have B2 : Hid (Below w.heap.size w w2) := HB.out.trans (b2.mono HB.out.size)
        clear b2 CC
        go_wp2_with fail
        go_roundw
        case rel => exact ⟨i + 1, by go_num, by omega, HR2.out, B2.out⟩
        case measure => simp [intOf]; omega
    · obtain rfl : i = n := by omega
      have hR := HR.out
      rw [Nat.sub_self, prbF] at hR
      subst hR
      have t1 : decide ((i : Int) < (i : Int)) = false := decide_eq_false (by omega)
      go_wp2_with fail
      go_ret
      exact ⟨rfl, HB.out⟩
#print axioms probeS_calls
set_option maxHeartbeats 8000000 in
theorem probeN_calls (bn : Nat) (t : Int) (k : List UInt8) (hk : k.length ≤ 1000) (w : World) :
    Calls Try.prog 83 #[.slice none 0 0, .agg #[.int .i64 t, .string (ks k)], .func (.func 109) #[] #[.pointer (some ⟨bn, 0, none⟩)]] w (ProbeC 0 none w) := by
  have HC := Lib.hid (fun wq => hash_calls t (ks k) wq (by rw [ks_size]; exact hk))
  have HLT : hashN (hb t (ks k)) < 4294967296 := hashN_lt _
  obtain ⟨H, hH⟩ : ∃ q, hashN (hb t (ks k)) = q := ⟨_, rfl⟩
  rw [hH] at HC HLT
  obtain ⟨N, hN⟩ : ∃ q, ks k = q := ⟨_, rfl⟩
  rw [hN] at HC ⊢
  have B0 : Hid (Below w.heap.size w (w.alloc (.cells #[.int .i64 t, .string N] 74))) := (Below.refl _ w).alloc (Nat.le_refl _) _
  clear hH hN
  go_enter Try.func83, Try.ntmps83
  go_wp2_with fail
  refine (HC.out _).mono ?_
  rintro e w1 ⟨rfl, b1⟩
  have B1 : Hid (Below w.heap.size w w1) := B0.out.trans (b1.mono B0.out.size)
  clear b1 HC B0
  go_wp2_with fail
  go_loopw [20] (fun x wl => x = .int .i64 0 ∧ wl = w1) (fun _ _ => 0)
  case atStart => exact ⟨rfl, rfl⟩
  case round =>
    obtain ⟨rfl, rfl⟩ := hrel
    go_wp2_with fail
    go_ret
    exact ⟨rfl, B1.out⟩
#print axioms probeN_calls
end Go.Proofs.Ytefcinifaaablaa.Stripe
