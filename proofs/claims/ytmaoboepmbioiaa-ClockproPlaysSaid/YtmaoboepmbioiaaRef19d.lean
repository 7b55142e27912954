/-
  The document's clock (ref19): Kind, Touch, Remove, New.
-/
import Derived.Test.YtmaoboepmbioiaaRef19c
namespace Go.Proofs.Ytmaoboepmbioiaa.Clock
open Go.RowKit Go.Sep
set_option maxRecDepth 100000
set_option linter.unusedVariables false
set_option linter.unusedSimpArgs false

/-- each page is in one place -/
structure Uq (S : CS) : Prop where
  c : (S.cold.map Pg.id).Nodup
  h : (S.hot.map Pg.id).Nodup
  t : (S.test.map Pg.id).Nodup
  ch : ∀ i, has S.cold i = true → has S.hot i = false ∧ has S.test i = false
  ht : ∀ i, has S.hot i = true → has S.test i = false
theorem has_memI {l : List Pg} {i : Int} : has l i = true ↔ i ∈ l.map Pg.id := by
  simp [has, List.any_eq_true, List.mem_map]
theorem has_no {l : List Pg} {i : Int} : has l i = false ↔ i ∉ l.map Pg.id := by
  rw [← has_memI]; cases has l i <;> simp
theorem ck_uq {w : World} {a : Nat} {S : CS} {F : Asr} (h : Holds w (ck a S * F)) : Uq S := by
  obtain ⟨D, hr, rfl, hw⟩ := ck_open h
  have hn := mapA_nodup intK (raw_P hw)
  have nd : ∀ k, ((listS S k).map Pg.id).Nodup := by
    intro k
    rw [← hr.list k, List.map_map]
    have hl := hr.wf.ln k
    have key : ∀ l : List Nat, (∀ x ∈ l, x ∈ D.L k) → l.Nodup → (l.map (Pg.id ∘ pgOf D.f)).Nodup := by
      intro l
      induction l with
      | nil => intro _ _; simp
      | cons x l ih =>
        intro hm hd
        obtain ⟨h1, h2⟩ := List.nodup_cons.1 hd
        rw [List.map_cons, List.nodup_cons]
        refine ⟨fun hx => ?_, ih (fun y hy => hm y (List.mem_cons_of_mem _ hy)) h2⟩
        obtain ⟨y, hy, e⟩ := List.mem_map.1 hx
        have e' : (D.f y).id = (D.f x).id := e
        have := hr.one hn (hm y (List.mem_cons_of_mem _ hy)) (hm x (by simp)) e'
        exact h1 (this ▸ hy)
    exact key _ (fun x h => h) hl
  have one : ∀ i k j, k ≠ j → has (listS S k) i = true → has (listS S j) i = false := by
    intro i k j hkj hk
    rcases hr.kind i hn with ⟨-, -, e3⟩ | ⟨b, q, hq, -, -, -, -, e3, e4⟩
    · rw [e3 k] at hk; exact absurd hk (by decide)
    · by_cases e : k = q
      · subst e; exact e4 j (Ne.symm hkj)
      · rw [e4 k e] at hk; exact absurd hk (by decide)
  exact ⟨nd 1, nd 2, nd 3, fun i h => ⟨one i 1 2 (by decide) h, one i 1 3 (by decide) h⟩, fun i h => one i 2 3 (by decide) h⟩

theorem place_or (l : List Pg) (id : Int) : (placeL l id = none ∧ has l id = false) ∨ ∃ k, placeL l id = some k ∧ has l id = true := by
  have h := place_has l id
  cases e : placeL l id with
  | none => rw [e] at h; exact .inl ⟨rfl, h.symm⟩
  | some k => rw [e] at h; exact .inr ⟨k, rfl, h.symm⟩
theorem markIn_at {l : List Pg} {id : Int} (hn : (l.map Pg.id).Nodup) (k : Nat) (hk : k < l.length) (h : l[k].id = id) : markIn l id = l.set k ⟨id, true⟩ := by
  induction l generalizing k with
  | nil => simp at hk
  | cons p l ih =>
    rw [List.map_cons, List.nodup_cons] at hn
    cases k with
    | zero =>
      simp only [List.getElem_cons_zero] at h
      have hno : has l id = false := has_no.2 (by rw [← h]; exact hn.1)
      have := markIn_no hno
      unfold markIn at this ⊢
      rw [List.map_cons, this]
      simp [h]
    | succ k =>
      simp only [List.getElem_cons_succ] at h
      have hp : p.id ≠ id := by
        rintro e
        refine hn.1 ?_
        rw [e, ← h]
        exact List.mem_map.2 ⟨_, List.getElem_mem _, rfl⟩
      have := ih hn.2 k (by simpa using hk) h
      unfold markIn at this ⊢
      rw [List.map_cons, this]
      simp [hp]
theorem outOf_at {l : List Pg} {id : Int} (hn : (l.map Pg.id).Nodup) (k : Nat) (hk : k < l.length) (h : l[k].id = id) : outOf l id = l.eraseIdx k := by
  induction l generalizing k with
  | nil => simp at hk
  | cons p l ih =>
    rw [List.map_cons, List.nodup_cons] at hn
    cases k with
    | zero =>
      simp only [List.getElem_cons_zero] at h
      have hno : has l id = false := has_no.2 (by rw [← h]; exact hn.1)
      have := outOf_no hno
      unfold outOf at this ⊢
      rw [List.filter_cons_of_neg (by simp [h]), this]
      simp
    | succ k =>
      simp only [List.getElem_cons_succ] at h
      have hp : p.id ≠ id := by
        rintro e
        refine hn.1 ?_
        rw [e, ← h]
        exact List.mem_map.2 ⟨_, List.getElem_mem _, rfl⟩
      have := ih hn.2 k (by simpa using hk) h
      unfold outOf at this ⊢
      rw [List.filter_cons_of_pos (by simpa using hp), this]
      simp

theorem rkind_calls (b : Nat) (S : CS) (F : Asr) (w : World) (id : Int) (hrk : Holds w (rk b S * F)) :
    Calls Try.prog 42 #[.pointer (some ⟨b, 0, none⟩), .int .i64 id] w fun e w' => e = .returned (.int .i64 (kindS S id)) ∧ w = w' := by
  obtain ⟨v1, v2, v3, hw⟩ := rk_open hrk
  obtain ⟨al, c0, c1, c2, c3, c4, cf⟩ := rk_seen hw
  have PC := Lib.hid (place_calls v1 S.cold _ id w (rkO_c hw))
  have PH := Lib.hid (place_calls v2 S.hot _ id w (rkO_h hw))
  have PT := Lib.hid (place_calls v3 S.test _ id w (rkO_t hw))
  clear cf hrk hw c0 c1
  rcases place_or S.cold id with ⟨e1, g1⟩ | ⟨k1, e1, g1⟩
  · rw [e1] at PC
    simp only [toI] at PC
    rcases place_or S.hot id with ⟨e2, g2⟩ | ⟨k2, e2, g2⟩
    · rw [e2] at PH
      simp only [toI] at PH
      rcases place_or S.test id with ⟨e3, g3⟩ | ⟨k3, e3, g3⟩
      · rw [e3] at PT
        simp only [toI] at PT
        have RS : Hid (kindS S id = 0) := by show _ = _; simp [kindS, g1, g2, g3]
        clear e1 g1 e2 g2 e3 g3
        go_enter Try.func42, Try.ntmps42
        go_wp2_with fail
        refine (PC.out).mono ?_
        rintro e w' ⟨rfl, rfl⟩
        go_wp2_with fail
        refine (PH.out).mono ?_
        rintro e w' ⟨rfl, rfl⟩
        go_wp2_with fail
        refine (PT.out).mono ?_
        rintro e w' ⟨rfl, rfl⟩
        go_wp2_with fail
        go_ret
        exact ⟨by rw [RS.out]; try rfl, rfl⟩
      · rw [e3] at PT
        simp only [toI] at PT
        have RS : Hid (kindS S id = 3) := by show _ = _; simp [kindS, g1, g2, g3]
        have d3 : decide ((0 : Int) ≤ (k3 : Int)) = true := by simp
        clear e1 g1 e2 g2 e3 g3
        go_enter Try.func42, Try.ntmps42
        go_wp2_with fail
        refine (PC.out).mono ?_
        rintro e w' ⟨rfl, rfl⟩
        go_wp2_with fail
        refine (PH.out).mono ?_
        rintro e w' ⟨rfl, rfl⟩
        go_wp2_with fail
        refine (PT.out).mono ?_
        rintro e w' ⟨rfl, rfl⟩
        go_wp2_with fail
        go_ret
        exact ⟨by rw [RS.out]; try rfl, rfl⟩
    · rw [e2] at PH
      simp only [toI] at PH
      have RS : Hid (kindS S id = 2) := by show _ = _; simp [kindS, g1, g2]
      have d3 : decide ((0 : Int) ≤ (k2 : Int)) = true := by simp
      clear e1 g1 e2 g2
      go_enter Try.func42, Try.ntmps42
      go_wp2_with fail
      refine (PC.out).mono ?_
      rintro e w' ⟨rfl, rfl⟩
      go_wp2_with fail
      refine (PH.out).mono ?_
      rintro e w' ⟨rfl, rfl⟩
      go_wp2_with fail
      go_ret
      exact ⟨by rw [RS.out]; try rfl, rfl⟩
  · rw [e1] at PC
    simp only [toI] at PC
    have RS : Hid (kindS S id = 1) := by show _ = _; simp [kindS, g1]
    have d3 : decide ((0 : Int) ≤ (k1 : Int)) = true := by simp
    clear e1 g1
    go_enter Try.func42, Try.ntmps42
    go_wp2_with fail
    refine (PC.out).mono ?_
    rintro e w' ⟨rfl, rfl⟩
    go_wp2_with fail
    go_ret
    exact ⟨by rw [RS.out]; try rfl, rfl⟩
#print axioms rkind_calls

theorem rowL_store1 {α : Type _} {T : TypeId} {sz : Nat} {enc : α → List Value} {g cap : Nat} {l : List α} {F : Asr} {w : World} (h : Holds w (rowL T sz enc (.slice (some ⟨g, 0, none⟩) l.length cap) l * F)) (he : ∀ x, (enc x).length = sz) (i j : Nat) (hi : i < l.length) (hj : j < sz) (v : Value) (x : α) (hx : enc x = (enc l[i]).set j v) :
    Holds (w.setCell ⟨g, i * sz + j, none⟩ v) (rowL T sz enc (.slice (some ⟨g, 0, none⟩) l.length cap) (l.set i x) * F) := by
  unfold rowL at h ⊢
  have h1 := rowA_store h (i * sz + j) (by have : (i + 1) * sz ≤ l.length * sz := Nat.mul_le_mul_right _ hi; rw [Nat.add_mul] at this; omega) v
  have e : (l.flatMap enc).set (i * sz + j) v = (l.set i x).flatMap enc := by
    have := congrArg Array.toList (flat_set he i j hi hj v x hx)
    simpa [flat, Array.toList_setIfInBounds] using this
  rw [e] at h1
  simpa using h1
/-- a page is marked where it lies -/
theorem pgs_mark {w : World} {g cap : Nat} {l : List Pg} {F : Asr} (h : Holds w (pgsA (.slice (some ⟨g, 0, none⟩) l.length cap) l * F)) (hn : (l.map Pg.id).Nodup) (k : Nat) (hk : k < l.length) (id : Int) (hi : l[k].id = id) :
    Holds (w.setCell ⟨g, k * 2 + 1, none⟩ (.bool true)) (pgsA (.slice (some ⟨g, 0, none⟩) l.length cap) (markIn l id) * F) := by
  have := rowL_store1 h pEnc_len k 1 hk (by omega) (.bool true) ⟨id, true⟩ (by simp [pEnc, hi])
  rw [← markIn_at hn k hk hi] at this
  exact this
theorem markIn_len (l : List Pg) (id : Int) : (markIn l id).length = l.length := by simp [markIn]

set_option maxHeartbeats 1000000 in
theorem rtouch_calls (b : Nat) (S : CS) (F : Asr) (w : World) (id : Int) (hu : Uq S) (hrk : Holds w (rk b S * F)) :
    Calls Try.prog 36 #[.pointer (some ⟨b, 0, none⟩), .int .i64 id] w fun e w' => e = .returned (.bool (isHere (kindS S id))) ∧ Holds w' (rk b (touchS S id) * F) ∧ Sm w w' := by
  obtain ⟨v1, v2, v3, hw⟩ := rk_open hrk
  obtain ⟨al, c0, c1, c2, c3, c4, cf⟩ := rk_seen hw
  have PC := Lib.hid (place_calls v1 S.cold _ id w (rkO_c hw))
  have PH := Lib.hid (place_calls v2 S.hot _ id w (rkO_h hw))
  rcases place_or S.cold id with ⟨e1, g1⟩ | ⟨k1, e1, g1⟩
  · rw [e1] at PC
    simp only [toI] at PC
    rcases place_or S.hot id with ⟨e2, g2⟩ | ⟨k2, e2, g2⟩
    · rw [e2] at PH
      simp only [toI] at PH
      have RS : Hid (isHere (kindS S id) = false) := by show _ = _; simp only [kindS, g1, g2]; cases has S.test id <;> rfl
      have TS : Hid (touchS S id = S) := by show _ = _; unfold touchS; rw [markIn_no g1, markIn_no g2]
      have HC := Lib.hid hrk
      clear e1 g1 e2 g2 cf hrk hw c0 c1 hu
      go_enter Try.func36, Try.ntmps36
      go_wp2_with fail
      refine (PC.out).mono ?_
      rintro e w' ⟨rfl, rfl⟩
      go_wp2_with fail
      refine (PH.out).mono ?_
      rintro e w' ⟨rfl, rfl⟩
      go_wp2_with fail
      go_ret
      exact ⟨by rw [RS.out]; try rfl, by rw [TS.out]; exact HC.out, Sm.refl _⟩
    · obtain ⟨hk, hid, -⟩ := place_lt e2
      rw [e2] at PH
      simp only [toI] at PH
      obtain ⟨g, cap, rfl, hcap, hg, x0, x1, xf⟩ := pgs_cell (rkO_h hw) k2 hk
      have RS : Hid (isHere (kindS S id) = true) := by show _ = _; simp only [kindS, g1, g2]; rfl
      have ST := pgs_mark (rkO_h hw) hu.h k2 hk id hid
      have HC : Hid (Holds (w.setCell ⟨g, k2 * 2 + 1, none⟩ (.bool true)) (rk b (touchS S id) * F)) := by
        show Holds _ _
        refine rk_shut (v1 := v1) (v2 := .slice (some ⟨g, 0, none⟩) S.hot.length cap) (v3 := v3) (ST.eqv ?_)
        unfold rkO touchS
        simp only [markIn_no g1]
        ac_rfl
      have xf1 := xf (k2 * 2 + 1)
      have d3 : decide ((0 : Int) ≤ (k2 : Int)) = true := by simp
      have i0 : (0 : Int) ≤ (k2 : Int) := by omega
      have i1 : (k2 : Int) < (S.hot.length : Int) := by omega
      obtain ⟨n, hn⟩ : ∃ n, S.hot.length = n := ⟨_, rfl⟩
      rw [hn] at i1 c3 PH hcap
      have d4 : decide ((k2 : Int) < 0) = false := by simp
      obtain ⟨mk, hmk⟩ : ∃ q, S.hot[k2].mark = q := ⟨_, rfl⟩
      rw [hmk] at x1
      clear e1 g1 e2 g2 cf hrk hw c0 c1 hu xf ST hid hmk x0 hk hn
      go_enter Try.func36, Try.ntmps36
      go_wp2_with fail
      refine (PC.out).mono ?_
      rintro e w' ⟨rfl, rfl⟩
      go_wp2_with fail
      refine (PH.out).mono ?_
      rintro e w' ⟨rfl, rfl⟩
      go_wp2_with fail
      go_ret
      exact ⟨by rw [RS.out]; try rfl, HC.out, (Sm.refl _).setCell _ _⟩
  · obtain ⟨hk, hid, -⟩ := place_lt e1
    rw [e1] at PC
    simp only [toI] at PC
    obtain ⟨g, cap, rfl, hcap, hg, x0, x1, xf⟩ := pgs_cell (rkO_c hw) k1 hk
    have RS : Hid (isHere (kindS S id) = true) := by show _ = _; simp only [kindS, g1]; rfl
    have ST := pgs_mark (rkO_c hw) hu.c k1 hk id hid
    have HC : Hid (Holds (w.setCell ⟨g, k1 * 2 + 1, none⟩ (.bool true)) (rk b (touchS S id) * F)) := by
      show Holds _ _
      refine rk_shut (v1 := .slice (some ⟨g, 0, none⟩) S.cold.length cap) (v2 := v2) (v3 := v3) (ST.eqv ?_)
      unfold rkO touchS
      simp only [markIn_no (hu.ch id g1).1]
      ac_rfl
    have xf1 := xf (k1 * 2 + 1)
    have d3 : decide ((0 : Int) ≤ (k1 : Int)) = true := by simp
    have i0 : (0 : Int) ≤ (k1 : Int) := by omega
    have i1 : (k1 : Int) < (S.cold.length : Int) := by omega
    obtain ⟨n, hn⟩ : ∃ n, S.cold.length = n := ⟨_, rfl⟩
    rw [hn] at i1 c2 PC hcap
    obtain ⟨mk, hmk⟩ : ∃ q, S.cold[k1].mark = q := ⟨_, rfl⟩
    rw [hmk] at x1
    clear e1 g1 cf hrk hw c0 c1 hu xf ST hid hmk x0 hk hn
    go_enter Try.func36, Try.ntmps36
    go_wp2_with fail
    refine (PC.out).mono ?_
    rintro e w' ⟨rfl, rfl⟩
    go_wp2_with fail
    go_ret
    exact ⟨by rw [RS.out]; try rfl, HC.out, (Sm.refl _).setCell _ _⟩
#print axioms rtouch_calls

def RNewC (m : Int) (F : Asr) (w : World) (e : Ending) (w' : World) : Prop := ∃ b, e = .returned (.tuple #[.pointer (some ⟨b, 0, none⟩), .int .i64 0]) ∧ Holds w' (rk b (newS m) * F) ∧ Sm w w'
theorem rnew_calls (m : Int) (F : Asr) (w : World) (h1 : 1 ≤ m) (h2 : m ≤ 4096) (hw : Holds w F) :
    Calls Try.prog 32 #[.int .i64 m] w (RNewC m F w) := by
  have d0 : decide (m < 1) = false := by simp; omega
  have d1 : decide (4096 < m) = false := by simp; omega
  have HA : Hid (Holds (w.alloc (.cells #[.int .i64 m, .int .i64 1, .slice none 0 0, .slice none 0 0, .slice none 0 0] 71)) (rk w.heap.size (newS m) * F)) := by
    show Holds _ _
    refine rk_shut (v1 := .slice none 0 0) (v2 := .slice none 0 0) (v3 := .slice none 0 0) ?_
    have := hw.alloc (.cells #[.int .i64 m, .int .i64 1, .slice none 0 0, .slice none 0 0, .slice none 0 0] 71)
    have := rowL_nil (T := 168) (sz := 2) (enc := pEnc) (rowL_nil (T := 168) (sz := 2) (enc := pEnc) (rowL_nil (T := 168) (sz := 2) (enc := pEnc) this))
    refine this.eqv ?_
    unfold rkO rhd pgsA newS
    simp only
    ac_rfl
  clear hw h1 h2
  go_enter Try.func32, Try.ntmps32
  go_wp2_with fail
  go_ret2
  exact ⟨_, rfl, HA.out, (Sm.refl w).alloc _⟩
theorem rnew_no (m : Int) (w : World) (h : m < 1 ∨ 4096 < m) :
    Calls Try.prog 32 #[.int .i64 m] w fun e w' => e = .returned (.tuple #[.pointer none, .int .i64 2]) ∧ w = w' := by
  by_cases h1 : m < 1
  · have d0 : decide (m < 1) = true := by simp; omega
    clear h
    go_enter Try.func32, Try.ntmps32
    go_wp2_with fail
    go_ret2
    exact ⟨rfl, rfl⟩
  · have d0 : decide (m < 1) = false := by simp; omega
    have d1 : decide (4096 < m) = true := by simp; omega
    clear h
    go_enter Try.func32, Try.ntmps32
    go_wp2_with fail
    go_ret2
    exact ⟨rfl, rfl⟩
#print axioms rnew_calls
#print axioms rnew_no
end Go.Proofs.Ytmaoboepmbioiaa.Clock
