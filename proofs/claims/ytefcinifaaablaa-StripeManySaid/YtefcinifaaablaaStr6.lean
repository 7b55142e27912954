/-
  Layer 17: the table; none, of, Get.
-/
import Derived.Test.YtefcinifaaablaaStr5
namespace Go.Proofs.Ytefcinifaaablaa.Stripe
open Go.RowKit Go.Sep
set_option maxRecDepth 100000
set_option linter.unusedVariables false
set_option linter.unusedSimpArgs false

theorem quietS {P : Program} {id B : Nat} {Q : Exit → Act → World → Prop} {a : Act} {w w0 : World} {l : List Oper} (hm : P.follows .mixedOrders = true) (hB : Region.lexB .any l.toArray = true) (hC : Below B w0 w.drew)
    (h : wpQuiet P l.toArray (fun w' => Below B w0 w') (fun a' => ∀ w', Below B w0 w' → Q .normal a' w') l a) : (Code.region id l.toArray true).wp P Q a w :=
  wp_region_quiet (C := fun w' => Below B w0 w') hm hB hC (by simpa using h)
def slotAt (B : Bd) (b : Bool) (j : Nat) : Sl := if b = true then B.el.getD j e0 else B.l.getD j e0
def pgOf (B : Bd) (b : Bool) : Nat := if b = true then B.eg.getD 0 else B.g
def setAt (B : Bd) (b : Bool) (j : Nat) (s : Sl) : Bd := if b = true then { B with el := B.el.set j s } else { B with l := B.l.set j s }
theorem bE_setAt (B : Bd) (b : Bool) (j : Nat) (s : Sl) : bE (setAt B b j s) = bE B := by cases b <;> simp [bE, setAt]
theorem fptr_some (B : Bd) (b : Bool) (j : Nat) : fptr B (some (b, j)) = .pointer (some ⟨pgOf B b, j * 4, none⟩) := by cases b <;> rfl
def PlOk (B : Bd) (b : Bool) (j : Nat) : Prop := if b = true then j < B.el.length else j < B.l.length
theorem seekL_lt {l : List Sl} {t : Int} {k : List UInt8} {j : Nat} (h : seekL l t k = some j) : j < l.length := by
  unfold seekL at h
  split at h
  · cases h
  · rename_i j2 hj
    split at h
    · cases h
    · obtain rfl := Option.some.inj h
      exact (prb_lt hj).1
theorem find_ok {B : Bd} {t : Int} {k : List UInt8} {b : Bool} {j : Nat} (h : findB B t k = some (b, j)) : PlOk B b j := by
  unfold findB at h
  split at h
  · rename_i j2 hj
    simp only [Option.some.injEq, Prod.mk.injEq] at h
    obtain ⟨rfl, rfl⟩ := h
    exact seekL_lt hj
  · split at h
    · rename_i j2 hj
      simp only [Option.some.injEq, Prod.mk.injEq] at h
      obtain ⟨rfl, rfl⟩ := h
      exact seekL_lt hj
    · cases h
theorem place_row {B : Bd} {b : Bool} {j : Nat} (hp : PlOk B b j) {F : Asr} {w : World} (h : Holds w (rowsA B * F)) : ∃ l G, (l = if b = true then B.el else B.l) ∧ j < l.length ∧ slotAt B b j = l.getD j e0 ∧ Holds w (slA (pgOf B b) l * G) ∧ ∀ (w' : World) (l' : List Sl), l' ≠ [] → Holds w' (slA (pgOf B b) l' * G) → Holds w' (rowsA (if b = true then { B with el := l' } else { B with l := l' }) * F) := by
  unfold rowsA at h
  cases b with
  | false => exact ⟨B.l, elA B.eg B.el * F, rfl, hp, rfl, h.eqv (star_assoc _ _ _), fun w' l' _ h' => h'.eqv (star_assoc _ _ _).symm⟩
  | true =>
    have hp2 : j < B.el.length := hp
    have h2 := h.eqv (by ac_rfl : _ = elA B.eg B.el * (slA B.g B.l * F))
    cases he : B.eg with
    | none =>
      rw [he] at h2
      have := (el_none h2).1
      rw [this] at hp2; simp at hp2
    | some eg =>
      rw [he] at h2
      obtain ⟨-, h3⟩ := el_some h2
      have e1 : pgOf B true = eg := by unfold pgOf; rw [he]; rfl
      refine ⟨B.el, slA B.g B.l * F, rfl, hp2, rfl, by rw [e1]; exact h3, fun w' l' hl' h' => ?_⟩
      rw [e1] at h'
      have := el_mk hl' h'
      unfold rowsA
      simp only [if_true, he]
      exact this.eqv (by ac_rfl)
theorem place_f {B : Bd} {b : Bool} {j : Nat} (hp : PlOk B b j) {F : Asr} {w : World} (h : Holds w (rowsA B * F)) : SlF w (pgOf B b) j (slotAt B b j) := by
  obtain ⟨l, G, -, hj, e, h1, -⟩ := place_row hp h
  have := sl_f h1 j hj
  rw [e, List.getD_eq_getElem?_getD, List.getElem?_eq_getElem hj, Option.getD_some]
  exact this
theorem place_set {B : Bd} {b : Bool} {j : Nat} (hp : PlOk B b j) {F : Asr} {w : World} (h : Holds w (rowsA B * F)) (c : Nat) (hc : c < 4) (v : Value) (x : Sl) (hx : slE x = (slE (slotAt B b j)).set c v) : Holds (w.setCell ⟨pgOf B b, j * 4 + c, none⟩ v) (rowsA (setAt B b j x) * F) := by
  obtain ⟨l, G, hl, hj, e, h1, h2⟩ := place_row hp h
  have hx2 : slE x = (slE l[j]).set c v := by rw [hx, e, List.getD_eq_getElem?_getD, List.getElem?_eq_getElem hj, Option.getD_some]
  have h3 := h2 _ _ (by intro h; have := congrArg List.length h; rw [List.length_set] at this; rw [this] at hj; simp at hj) (sl_set h1 j c hj hc v x hx2)
  refine h3.eqv ?_
  congr 1
  unfold setAt
  subst hl
  cases b <;> rfl
theorem place_put {B : Bd} {b : Bool} {j : Nat} (hp : PlOk B b j) {F : Asr} {w : World} (h : Holds w (rowsA B * F)) (x : Sl) : Holds ((((w.setCell ⟨pgOf B b, j * 4, none⟩ (.int .i64 x.st)).setCell ⟨pgOf B b, j * 4 + 1, none⟩ (.int .i64 x.t)).setCell ⟨pgOf B b, j * 4 + 2, none⟩ (.string (ks x.k))).setCell ⟨pgOf B b, j * 4 + 3, none⟩ (.int .i64 x.v)) (rowsA (setAt B b j x) * F) := by
  obtain ⟨l, G, hl, hj, e, h1, h2⟩ := place_row hp h
  have h3 := h2 _ _ (by intro h; have := congrArg List.length h; rw [List.length_set] at this; rw [this] at hj; simp at hj) (sl_put h1 j hj x)
  refine h3.eqv ?_
  congr 1
  unfold setAt
  subst hl
  cases b <;> rfl
#print axioms place_put
def tabA (t gb : Nat) (Bs : List Bd) : Asr := pts t (.cells #[.slice (some ⟨gb, 0, none⟩) Bs.length Bs.length] 133 (0, 0)) * (bdA gb Bs * big rowsA Bs)
theorem tab_c {w : World} {t gb : Nat} {Bs : List Bd} {F : Asr} (h : Holds w (tabA t gb Bs * F)) : w.cell? ⟨t, 0, none⟩ = some (.slice (some ⟨gb, 0, none⟩) Bs.length Bs.length) := by
  have h2 := h.eqv (by unfold tabA; ac_rfl : _ = pts t (.cells #[.slice (some ⟨gb, 0, none⟩) Bs.length Bs.length] 133 (0, 0)) * (bdA gb Bs * big rowsA Bs * F))
  rw [h2.cell]; rfl
/-- one band, and the others -/
theorem tab_at {w : World} {t gb : Nat} {Bs : List Bd} {F : Asr} (h : Holds w (tabA t gb Bs * F)) (i : Nat) (hi : i < Bs.length) : Holds w (bdA gb Bs * (rowsA Bs[i] * (pts t (.cells #[.slice (some ⟨gb, 0, none⟩) Bs.length Bs.length] 133 (0, 0)) * (big rowsA (Bs.eraseIdx i) * F)))) := by
  unfold tabA at h
  rw [big_at rowsA Bs i hi] at h
  exact h.eqv (by ac_rfl)
theorem tab_mk {w : World} {t gb : Nat} {Bs : List Bd} {F : Asr} (i : Nat) (hi : i < Bs.length) (B : Bd) (h : Holds w (bdA gb (Bs.set i B) * (rowsA B * (pts t (.cells #[.slice (some ⟨gb, 0, none⟩) Bs.length Bs.length] 133 (0, 0)) * (big rowsA (Bs.eraseIdx i) * F))))) : Holds w (tabA t gb (Bs.set i B) * F) := by
  unfold tabA
  rw [big_set rowsA Bs i B hi, List.length_set]
  exact h.eqv (by ac_rfl)
theorem none_calls (t gb : Nat) (Bs : List Bd) (h0 : 0 < Bs.length) (F : Asr) (w : World) (hw : Holds w (tabA t gb Bs * F)) : Calls Try.prog 60 #[.pointer (some ⟨t, 0, none⟩)] w fun e w' => e = .returned (.bool false) ∧ w' = w := by
  have c := tab_c hw
  have t1 : ((Bs.length : Int) == 0) = false := beq_eq_false_iff_ne.2 (by omega)
  have t1' : (Bs.length == 0) = false := beq_eq_false_iff_ne.2 (by omega)
  clear hw h0
  go_enter Try.func60, Try.ntmps60
  go_wp2_with fail
  go_ret
  exact ⟨rfl, rfl⟩
#print axioms none_calls
def ixT (n : Nat) (t : Int) (k : List UInt8) : Nat := hN t k % n
set_option maxHeartbeats 4000000 in
theorem of_calls (tb gb : Nat) (Bs : List Bd) (h0 : 0 < Bs.length) (h1 : Bs.length ≤ 64) (t : Int) (k : List UInt8) (hk : k.length ≤ 1000) (F : Asr) (w : World) (hw : Holds w (tabA tb gb Bs * F)) :
    Calls Try.prog 61 #[.pointer (some ⟨tb, 0, none⟩), .agg #[.int .i64 t, .string (ks k)]] w fun e w' => e = .returned (.pointer (some ⟨gb, ixT Bs.length t k * 5, none⟩)) ∧ Below w.heap.size w w' := by
  have HC := Lib.hid (fun wq => hash_calls t (ks k) wq (by rw [ks_size]; exact hk))
  have B0 : Hid (Below w.heap.size w (w.alloc (.cells #[.int .i64 t, .string (ks k)] 74))) := (Below.refl _ w).alloc (Nat.le_refl _) _
  have hA := hw.alloc (.cells #[.int .i64 t, .string (ks k)] 74)
  have hA2 := hw.grow B0.out
  obtain ⟨n0, n1⟩ := nam_cell hA
  have c0 := tab_c hA2
  have LT : w.heap.size < (w.alloc (.cells #[.int .i64 t, .string (ks k)] 74)).heap.size := by simp
  have LT2 : tb < (w.alloc (.cells #[.int .i64 t, .string (ks k)] 74)).heap.size := (hA2.eqv (by unfold tabA; ac_rfl : _ = pts tb (.cells #[.slice (some ⟨gb, 0, none⟩) Bs.length Bs.length] 133 (0, 0)) * (bdA gb Bs * big rowsA Bs * F))).lt
  have hx : ixT Bs.length t k < Bs.length := Nat.mod_lt _ h0
  have hx2 : hashN (hb t (ks k)) % Bs.length = ixT Bs.length t k := rfl
  have HLT : hashN (hb t (ks k)) < 4294967296 := hashN_lt _
  obtain ⟨x, hxx⟩ : ∃ q, ixT Bs.length t k = q := ⟨_, rfl⟩
  rw [hxx] at hx hx2 ⊢
  obtain ⟨H, hH⟩ : ∃ q, hashN (hb t (ks k)) = q := ⟨_, rfl⟩
  rw [hH] at HC hx2 HLT
  obtain ⟨W0, hW0⟩ : ∃ q, w.alloc (.cells #[.int .i64 t, .string (ks k)] 74) = q := ⟨_, rfl⟩
  have HW0 := Lib.hid hW0
  rw [hW0] at n0 n1 c0 B0 LT LT2
  obtain ⟨N, hN⟩ : ∃ q, ks k = q := ⟨_, rfl⟩
  rw [hN] at HC n1 HW0 ⊢
  obtain ⟨n, hn⟩ : ∃ q, Bs.length = q := ⟨_, rfl⟩
  rw [hn] at hx hx2 c0 h0 h1
  have e2 : (H : Int) % (n : Int) = (x : Int) := by rw [← hx2]; rfl
  have e3 : IntKind.u32.wrap (n : Int) = (n : Int) := IntWalk.u32_in _ (by omega)
  have e4 : (n : Int) ≠ 0 := by omega
  have e4' : ((n : Int) == 0) = false := beq_eq_false_iff_ne.2 e4
  have e5 : (x : Int) < (n : Int) := by omega
  have e6 : (0 : Int) ≤ (x : Int) := by omega
  have FQ : Hid (∀ wq, Below W0.heap.size W0 wq → wq.cell? ⟨w.heap.size, 0, none⟩ = some (.int .i64 t) ∧ wq.cell? ⟨w.heap.size, 1, none⟩ = some (.string N) ∧ wq.cell? ⟨tb, 0, none⟩ = some (.slice (some ⟨gb, 0, none⟩) n n)) := fun wq hq => ⟨(hq.cell (p := ⟨w.heap.size, 0, none⟩) LT).trans n0, (hq.cell (p := ⟨w.heap.size, 1, none⟩) LT).trans n1, (hq.cell (p := ⟨tb, 0, none⟩) LT2).trans c0⟩
  have HC2 : Hid (∀ wq, Below W0.heap.size W0 wq → Calls Try.prog 81 #[.agg #[.int .i64 t, .string N]] wq fun e w' => e = .returned (.int .u32 (H : Int)) ∧ Below W0.heap.size W0 w') := fun wq hq => (HC.out wq).mono fun e w' ⟨q1, q2⟩ => ⟨q1, hq.trans (q2.mono hq.size)⟩
  clear hw hA hA2 hxx hH hW0 hN hn hx hx2 HC n0 n1 c0 hk LT LT2
  go_enter Try.func61, Try.ntmps61
  go_wp2_with fail
  rw [HW0.out]
  refine quietS (B := W0.heap.size) (w0 := W0) (by kernel_rfl) (by kernel_rfl) (Below.refl _ _).drew ?_
  repeat (go_big_quiet_step ((intro hq; first | (go_at_call 81; with_reducible refine (HC2.out _ hq).mono ?_; rintro e w'' ⟨rfl, hb'⟩; exact ⟨rfl, hb'⟩) | (obtain ⟨f1, f2, f3⟩ := FQ.out _ hq; first | (go_simp; done) | (go_simp; rfl)))))
  refine wpQuiet_nil ?_
  intro w6 hq6
  have B6 := Lib.hid hq6
  clear hq6
  go_wp2_with fail
  go_ret
  exact ⟨rfl, B0.out.trans (B6.out.mono B0.out.size)⟩
#print axioms of_calls
end Go.Proofs.Ytefcinifaaablaa.Stripe
