/-
  The document's clock (ref19): its memory; place, out, turnHot.
-/
import Derived.Test.YtmaoboepmbioiaaReg
import Derived.Test.YtmaoboepmbioiaaClockGood
import Derived.Test.YtmaoboepmbioiaaClockIds
namespace Go.Proofs.Ytmaoboepmbioiaa.Clock
open Go.RowKit Go.Sep
set_option maxRecDepth 100000
set_option linter.unusedVariables false
set_option linter.unusedSimpArgs false

def pEnc (p : Pg) : List Value := [.int .i64 p.id, .bool p.mark]
theorem pEnc_len (p : Pg) : (pEnc p).length = 2 := rfl
theorem infoP : (Try.prog.info? 168).map (fun i => (i.zero, i.size, i.bytes)) = some (some (.agg #[.int .i64 0, .bool false]), 2, 16) := by kernel_rfl
def pgsA (v : Value) (l : List Pg) : Asr := rowL 168 2 pEnc v l
def rhd (b : Nat) (m t : Int) (v1 v2 v3 : Value) : Asr := pts b (.cells #[.int .i64 m, .int .i64 t, v1, v2, v3] 71 (0, 0))
def rkO (b : Nat) (m t : Int) (v1 v2 v3 : Value) (c h te : List Pg) : Asr := rhd b m t v1 v2 v3 * (pgsA v1 c * (pgsA v2 h * pgsA v3 te))
def rk (b : Nat) (S : CS) : Asr := ex fun v : Value × Value × Value => rkO b S.most S.target v.1 v.2.1 v.2.2 S.cold S.hot S.test
theorem rk_open {w : World} {b : Nat} {S : CS} {F : Asr} (h : Holds w (rk b S * F)) : ∃ v1 v2 v3, Holds w (rkO b S.most S.target v1 v2 v3 S.cold S.hot S.test * F) := by
  unfold rk at h
  rw [ex_star] at h
  obtain ⟨v, h⟩ := holds_ex.1 h
  exact ⟨v.1, v.2.1, v.2.2, h⟩
theorem rk_shut {w : World} {b : Nat} {S : CS} {F : Asr} {v1 v2 v3 : Value} (h : Holds w (rkO b S.most S.target v1 v2 v3 S.cold S.hot S.test * F)) : Holds w (rk b S * F) := by
  unfold rk
  rw [ex_star]
  exact holds_ex.2 ⟨(v1, v2, v3), h⟩
section
variable {w : World} {b : Nat} {m t : Int} {v1 v2 v3 : Value} {c h te : List Pg} {F : Asr}
theorem rkO_hd (H : Holds w (rkO b m t v1 v2 v3 c h te * F)) : Holds w (rhd b m t v1 v2 v3 * (pgsA v1 c * (pgsA v2 h * (pgsA v3 te * F)))) := H.eqv (by unfold rkO; ac_rfl)
theorem rkO_hd' (H : Holds w (rhd b m t v1 v2 v3 * (pgsA v1 c * (pgsA v2 h * (pgsA v3 te * F))))) : Holds w (rkO b m t v1 v2 v3 c h te * F) := H.eqv (by unfold rkO; ac_rfl)
theorem rkO_c (H : Holds w (rkO b m t v1 v2 v3 c h te * F)) : Holds w (pgsA v1 c * (rhd b m t v1 v2 v3 * (pgsA v2 h * (pgsA v3 te * F)))) := H.eqv (by unfold rkO; ac_rfl)
theorem rkO_h (H : Holds w (rkO b m t v1 v2 v3 c h te * F)) : Holds w (pgsA v2 h * (rhd b m t v1 v2 v3 * (pgsA v1 c * (pgsA v3 te * F)))) := H.eqv (by unfold rkO; ac_rfl)
theorem rkO_t (H : Holds w (rkO b m t v1 v2 v3 c h te * F)) : Holds w (pgsA v3 te * (rhd b m t v1 v2 v3 * (pgsA v1 c * (pgsA v2 h * F)))) := H.eqv (by unfold rkO; ac_rfl)
end
structure RSeen (w : World) (b : Nat) (m t : Int) (v1 v2 v3 : Value) : Prop where
  lt : b < w.heap.size
  c0 : w.cell? ⟨b, 0, none⟩ = some (.int .i64 m)
  c1 : w.cell? ⟨b, 1, none⟩ = some (.int .i64 t)
  c2 : w.cell? ⟨b, 2, none⟩ = some v1
  c3 : w.cell? ⟨b, 3, none⟩ = some v2
  c4 : w.cell? ⟨b, 4, none⟩ = some v3
  f : ∀ j, w.frozen? ⟨b, j, none⟩ = false
theorem rk_seen {w : World} {b : Nat} {m t : Int} {v1 v2 v3 : Value} {c h te : List Pg} {F : Asr} (H : Holds w (rkO b m t v1 v2 v3 c h te * F)) : RSeen w b m t v1 v2 v3 := by
  have hh := rkO_hd H
  exact ⟨hh.lt, hh.cell 0, hh.cell 1, hh.cell 2, hh.cell 3, hh.cell 4, hh.frozen⟩

/-- a slice of pages, as a walk sees it -/
theorem pgs_slice {w : World} {v : Value} {l : List Pg} {F : Asr} (h : Holds w (pgsA v l * F)) : ∃ ao cap, v = .slice ao l.length cap ∧ l.length ≤ cap ∧ cap ≤ maxLen := by
  rcases (rowA_cases h).2 with ⟨rfl, hl, -⟩ | ⟨g, cap, cur, rfl, h1, h2, -⟩
  · rw [hl]; exact ⟨none, 0, rfl, Nat.le_refl _, Nat.zero_le _⟩
  · exact ⟨_, cap, rfl, h1, h2⟩
theorem pgs_cell {w : World} {v : Value} {l : List Pg} {F : Asr} (h : Holds w (pgsA v l * F)) (i : Nat) (hi : i < l.length) :
    ∃ g cap, v = .slice (some ⟨g, 0, none⟩) l.length cap ∧ l.length ≤ cap ∧ g < w.heap.size ∧ w.cell? ⟨g, i * 2, none⟩ = some (.int .i64 l[i].id) ∧ w.cell? ⟨g, i * 2 + 1, none⟩ = some (.bool l[i].mark) ∧ (∀ j, w.frozen? ⟨g, j, none⟩ = false) := by
  obtain ⟨g, cap, h1, h2, h3, h4, h5⟩ := rowL_cell h pEnc_len i hi
  exact ⟨g, cap, h1, h2, h3, h4 0 (by omega), h4 1 (by omega), h5⟩

def placeL (l : List Pg) (id : Int) : Option Nat := l.findIdx? fun p => p.id == id
def toI : Option Nat → Int
  | some k => k
  | none => -1
theorem place_at {l : List Pg} {id : Int} (k : Nat) (hk : k < l.length) (h : l[k].id = id) (hno : ∀ j (h : j < k), l[j].id ≠ id) : placeL l id = some k := by
  unfold placeL
  rw [List.findIdx?_eq_some_iff_getElem]
  exact ⟨hk, by simp [h], fun j hj => by simpa using hno j hj⟩
theorem place_no {l : List Pg} {id : Int} (hno : ∀ j (h : j < l.length), l[j].id ≠ id) : placeL l id = none := by
  unfold placeL
  rw [List.findIdx?_eq_none_iff]
  intro b hb
  obtain ⟨j, hj, rfl⟩ := List.getElem_of_mem hb
  simpa using hno j hj
theorem place_has (l : List Pg) (id : Int) : (placeL l id).isSome = has l id := by
  unfold placeL has
  cases h : l.findIdx? (fun p => p.id == id) with
  | none =>
    rw [List.findIdx?_eq_none_iff] at h
    symm
    rw [Option.isSome_none, List.any_eq_false]
    intro x hx
    have := h x hx
    simpa using this
  | some k =>
    obtain ⟨h1, h2, -⟩ := List.findIdx?_eq_some_iff_getElem.1 h
    symm
    rw [Option.isSome_some, List.any_eq_true]
    exact ⟨l[k], List.getElem_mem h1, h2⟩
theorem place_lt {l : List Pg} {id : Int} {k : Nat} (h : placeL l id = some k) : ∃ hk : k < l.length, l[k].id = id ∧ ∀ j (h : j < k), l[j].id ≠ id := by
  unfold placeL at h
  obtain ⟨h1, h2, h3⟩ := List.findIdx?_eq_some_iff_getElem.1 h
  exact ⟨h1, by simpa using h2, fun j hj => by simpa using h3 j hj⟩
set_option maxHeartbeats 2000000 in
theorem place_calls (v : Value) (l : List Pg) (F : Asr) (id : Int) (w : World) (hw : Holds w (pgsA v l * F)) :
    Calls Try.prog 88 #[v, .int .i64 id] w fun e w' => e = .returned (.int .i64 (toI (placeL l id))) ∧ w = w' := by
  obtain ⟨ao, cap, rfl, hcap, hmax⟩ := pgs_slice hw
  have HC := Lib.hid (fun k hk => pgs_cell hw k hk)
  have hsm : l.length ≤ 9223372036854775807 := by unfold maxLen at hmax; omega
  clear hw hmax
  obtain ⟨n, hn⟩ : ∃ n, l.length = n := ⟨_, rfl⟩
  have HN := Lib.hid hn
  rw [hn] at hcap hsm ⊢
  clear hn
  go_enter Try.func88, Try.ntmps88
  go_wp2_with fail
  go_loop [5] (fun x => ∃ k : Nat, k ≤ n ∧ x = .int .i64 k ∧ Hid (∀ j (h : j < k) (h' : j < l.length), l[j].id ≠ id)) (fun x => n - (intOf x).toNat)
  case atStart => exact ⟨0, Nat.zero_le _, rfl, fun j h => by omega⟩
  case round =>
    obtain ⟨k, hk, rfl, hno⟩ := hrel
    by_cases hlt : k < n
    · have hkl : k < l.length := by rw [HN.out]; exact hlt
      obtain ⟨g, cap', hv, -, hg, c0, -, -⟩ := HC.out k hkl
      simp at hv
      obtain ⟨rfl, -, -⟩ := hv
      have e0 : (0 : Int) ≤ (k : Int) := by omega
      have e1 : (k : Int) < (n : Int) := by omega
      by_cases hc : l[k].id = id
      · have d0 : (l[k].id == id) = true := by simpa using hc
        have R := Lib.hid (place_at k hkl hc fun j h => hno.out j h (by omega))
        clear hc
        go_wp2_with fail
        go_ret
        exact ⟨by rw [R.out]; rfl, rfl⟩
      · have d0 : (l[k].id == id) = false := by simpa using hc
        have hno' : Hid (∀ j (h : j < k + 1) (h' : j < l.length), l[j].id ≠ id) := by
          intro j h h'
          by_cases e : j = k
          · subst e; exact hc
          · exact hno.out j (by omega) h'
        clear hc
        go_wp2_with fail
        go_round
        case rel => exact ⟨k + 1, by omega, by go_num, hno'⟩
        case measure => simp [intOf]; omega
    · obtain rfl : n = k := by omega
      have R := Lib.hid (place_no fun j h => hno.out j (by rw [← HN.out]; exact h) h)
      go_wp2_with fail
      go_ret
      exact ⟨by rw [R.out]; rfl, rfl⟩
#print axioms place_calls
end Go.Proofs.Ytmaoboepmbioiaa.Clock
