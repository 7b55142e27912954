/-
  The document's arena (ref15): New; Alloc against the arena's.
-/
import Derived.Test.YtefcinifaaablaaRef15e
import Derived.Test.YtefcinifaaablaaSlabRel
namespace Go.Proofs.Ytefcinifaaablaa.Ref15
open Go.RowKit Go.Sep
open Go.Proofs.Ytefcinifaaablaa.Slab (szOf szN szN_val zeros clsFor ABlk blkA rightA setA freeA allocA X4 newBad newA newBad_zero)
set_option maxRecDepth 100000
set_option linter.unusedVariables false
set_option linter.unusedSimpArgs false

def RNewC (X : Nat → Int) (F : Asr) (w : World) (e : Ending) (w' : World) : Prop :=
  (newBad X ≠ 0 ∧ e = .returned (.tuple #[.pointer none, .int .i64 (newBad X)]) ∧ Below w.heap.size w w') ∨
  (newBad X = 0 ∧ ∃ a, e = .returned (.tuple #[.pointer (some ⟨a, 0, none⟩), .int .i64 0]) ∧ Holds w' (refA a X [] * F) ∧ Sm w w')
theorem x4_cell (x0 x1 x2 x3 : Int) (w : World) (T : TypeId) (k : Nat) (hk : k < 4) : (w.alloc (.cells #[.int .i64 x0, .int .i64 x1, .int .i64 x2, .int .i64 x3] T)).cell? ⟨w.heap.size, k, none⟩ = some (.int .i64 (X4 x0 x1 x2 x3 k)) := by
  rw [World.cell?_alloc_new]
  have : k = 0 ∨ k = 1 ∨ k = 2 ∨ k = 3 := by omega
  rcases this with rfl | rfl | rfl | rfl <;> rfl
set_option maxHeartbeats 1000000 in
theorem rnewA_calls (x0 x1 x2 x3 : Int) (F : Asr) (w : World) (hw : Holds w F) :
    Calls Try.prog 18 #[.agg #[.int .i64 x0, .int .i64 x1, .int .i64 x2, .int .i64 x3]] w (RNewC (X4 x0 x1 x2 x3) F w) := by
  have HC := Lib.hid (fun T k hk => x4_cell x0 x1 x2 x3 w T k hk)
  have HA : Hid (Holds ((w.alloc (.cells #[.int .i64 x0, .int .i64 x1, .int .i64 x2, .int .i64 x3] 26)).alloc (.cells #[.int .i64 x0, .int .i64 x1, .int .i64 x2, .int .i64 x3, .slice none 0 0] 114)) (refA (w.heap.size + 1) (X4 x0 x1 x2 x3) [] * F)) := by
    show Holds _ _
    have h1 := hw.alloc (.cells #[.int .i64 x0, .int .i64 x1, .int .i64 x2, .int .i64 x3] 26)
    have h2 := h1.right.alloc (.cells #[.int .i64 x0, .int .i64 x1, .int .i64 x2, .int .i64 x3, .slice none 0 0] 114)
    rw [World.size_alloc] at h2
    have h3 := rowL_nil (T := 120) (sz := 5) (enc := RBlk.enc) h2
    refine ref_shut (v := .slice none 0 0) (h3.eqv ?_)
    rw [big_nil, emp_star]
    unfold hd X4
    simp only [if_true]
    exact star_left_comm _ _ _
  obtain ⟨X, hX⟩ : ∃ q, X4 x0 x1 x2 x3 = q := ⟨_, rfl⟩
  rw [hX] at HC HA ⊢
  clear hX hw
  go_enter Try.func18, Try.ntmps18
  go_wp2_with fail
  go_loop [4] (fun i => ∃ k : Nat, k ≤ 4 ∧ i = .int .i64 k ∧ Hid (∀ j, j < k → 0 ≤ X j)) (fun i => 4 - (intOf i).toNat)
  case atStart => exact ⟨0, Nat.zero_le _, rfl, fun j h => by omega⟩
  case round =>
    obtain ⟨k, hk, rfl, hno⟩ := hrel
    by_cases hlt : k < 4
    · have hidx := HC.out 26 k hlt
      have j0 : (0 : Int) ≤ (k : Int) := by omega
      have j1 : (k : Int) < 4 := by omega
      have dl : decide ((k : Int) < 4) = true := by simp; omega
      by_cases hneg : X k < 0
      · have hg1 : decide (X k < 0) = true := by simpa using hneg
        have he : Hid (newBad X = 2) := by show newBad X = 2; unfold newBad; rw [if_pos ⟨k, hlt, hneg⟩]
        clear hneg
        go_wp2_with fail
        go_ret2
        exact .inl ⟨by rw [he.out]; decide, by rw [he.out]; rfl, by repeat (first | exact Below.refl _ _ | refine Below.alloc ?_ (by simp) _)⟩
      · have hg1 : decide (X k < 0) = false := by simpa using hneg
        have hno' : Hid (∀ j, j < k + 1 → 0 ≤ X j) := by
          intro j h
          by_cases e : j = k
          · subst e; omega
          · exact hno.out j (by omega)
        clear hneg
        go_wp2_with fail
        go_round
        case rel => exact ⟨k + 1, by omega, by go_num, hno'⟩
        case measure => simp [intOf]; omega
    · obtain rfl : k = 4 := by omega
      have dl : decide (((4 : Nat) : Int) < 4) = false := by decide
      clear hlt hk
      go_wp2_with fail
      go_loop [5] (fun i => ∃ k : Nat, k ≤ 4 ∧ i = .int .i64 k ∧ Hid (∀ j, j < k → X j ≤ 4096)) (fun i => 4 - (intOf i).toNat)
      case atStart => exact ⟨0, Nat.zero_le _, rfl, fun j h => by omega⟩
      case round =>
        obtain ⟨k, hk, rfl, hle⟩ := hrel
        clear dl
        by_cases hlt : k < 4
        · have hidx := HC.out 26 k hlt
          have j0 : (0 : Int) ≤ (k : Int) := by omega
          have j1 : (k : Int) < 4 := by omega
          have dl : decide ((k : Int) < 4) = true := by simp; omega
          by_cases hbig : 4096 < X k
          · have hg1 : decide (4096 < X k) = true := by simpa using hbig
            have he : Hid (newBad X = 3) := by
              show newBad X = 3
              unfold newBad
              rw [if_neg, if_pos ⟨k, hlt, hbig⟩]
              rintro ⟨j, h1, h2⟩
              have := hno.out j h1
              omega
            clear hbig
            go_wp2_with fail
            go_ret2
            exact .inl ⟨by rw [he.out]; decide, by rw [he.out]; rfl, by repeat (first | exact Below.refl _ _ | refine Below.alloc ?_ (by simp) _)⟩
          · have hg1 : decide (4096 < X k) = false := by simpa using hbig
            have hle' : Hid (∀ j, j < k + 1 → X j ≤ 4096) := by
              intro j h
              by_cases e : j = k
              · subst e; omega
              · exact hle.out j (by omega)
            clear hbig
            go_wp2_with fail
            go_round
            case rel => exact ⟨k + 1, by omega, by go_num, hle'⟩
            case measure => simp [intOf]; omega
        · obtain rfl : k = 4 := by omega
          have dl : decide (((4 : Nat) : Int) < 4) = false := by decide
          have he : Hid (newBad X = 0) := by
            show newBad X = 0
            unfold newBad
            rw [if_neg, if_neg]
            · rintro ⟨j, h1, h2⟩; have := hle.out j h1; omega
            · rintro ⟨j, h1, h2⟩; have := hno.out j h1; omega
          clear hlt hk
          go_wp2_with fail
          go_ret2
          exact .inr ⟨he.out, _, rfl, HA.out, ((Sm.refl w).alloc _).alloc _⟩
#print axioms rnewA_calls

/-! ### Alloc, as plain data -/
theorem freeA_eq {A : List (List ABlk)} {L : List RBlk} (h : RelS A L) (c : Nat) (hc : c < A.length) (i : Nat) (hi : i < A[c].length) : freeI L c i = (A[c][i].held == 0) := by
  have R := h.at_ c i hc hi
  unfold freeI
  cases hf : findI L c i with
  | none => simp only; rw [(R.no hf).1]; rfl
  | some k =>
    obtain ⟨hk, -, -⟩ := findI_is hf
    have := (R.yes k hf hk).1
    simp only [List.getD, List.getElem?_eq_getElem hk, Option.getD_some, this]
theorem findI_snoc {L : List RBlk} {b : RBlk} (c i : Int) : findI (L ++ [b]) c i = (findI L c i).or (if b.c = c ∧ b.i = i then some L.length else none) := by
  unfold findI
  rw [List.findIdx?_append]
  congr 1
  simp [List.findIdx?_cons]
/-- a block that was never taken is taken -/
theorem RelS.snoc {A : List (List ABlk)} {L : List RBlk} (h : RelS A L) {c i : Nat} (h1 : c < A.length) (h2 : i < A[c].length) (hno : findI L c i = none) {a : ABlk} {b : RBlk} (hw : WfB (szN c) a) (bc : b.c = c) (bi : b.i = i) (bh : b.h = a.held) (bg : b.g = a.gen) (bb : a.held ≠ 0 → b.bytes = a.bytes ∧ ∃ x, b.loc = some x) :
    RelS (setA A c i a) (L ++ [b]) := by
  have key : ∀ k (hk : k < L.length), ¬ (L[k].c = c ∧ L[k].i = i) := by
    intro k hk hh
    unfold findI at hno
    rw [List.findIdx?_eq_none_iff] at hno
    have := hno L[k] (List.getElem_mem _)
    simp [hh] at this
  refine ⟨⟨by rw [setA_len]; exact h.wf.len, fun c2 i2 q1 q2 => ?_⟩, fun j m hj hm e1 e2 => ?_, fun j hj => ?_, fun c2 i2 q1 q2 => ?_⟩
  · have p1 : c2 < A.length := by rw [setA_len] at q1; exact q1
    have p2 : i2 < A[c2].length := by rw [setA_row q1 p1] at q2; exact q2
    rw [setA_get q1 q2 p1 p2]
    by_cases e : c = c2 ∧ i = i2
    · rw [if_pos e]; obtain ⟨rfl, rfl⟩ := e; exact hw
    · rw [if_neg e]; exact h.wf.at_ c2 i2 p1 p2
  · have hj' : j < L.length ∨ j = L.length := by simp at hj; omega
    have hm' : m < L.length ∨ m = L.length := by simp at hm; omega
    rcases hj' with hj' | rfl
    · rcases hm' with hm' | rfl
      · rw [List.getElem_append_left hj', List.getElem_append_left hm'] at e1 e2
        exact h.nd j m hj' hm' e1 e2
      · rw [List.getElem_append_left hj'] at e1 e2
        simp only [List.getElem_concat_length] at e1 e2
        exact absurd ⟨e1.trans bc, e2.trans bi⟩ (key j hj')
    · rcases hm' with hm' | rfl
      · rw [List.getElem_append_left hm'] at e1 e2
        simp only [List.getElem_concat_length] at e1 e2
        exact absurd ⟨e1.symm.trans bc, e2.symm.trans bi⟩ (key m hm')
      · rfl
  · have q1 : ∀ c2, c2 < A.length → c2 < (setA A c i a).length := fun c2 p1 => by rw [setA_len]; exact p1
    have hj' : j < L.length ∨ j = L.length := by simp at hj; omega
    rcases hj' with hj' | rfl
    · rw [List.getElem_append_left hj']
      obtain ⟨c2, i2, p1, p2, d1, d2⟩ := h.dom j hj'
      exact ⟨c2, i2, q1 c2 p1, by rw [setA_row (q1 c2 p1) p1]; exact p2, d1, d2⟩
    · simp only [List.getElem_concat_length]
      exact ⟨c, i, q1 c h1, by rw [setA_row (q1 c h1) h1]; exact h2, bc, bi⟩
  · have p1 : c2 < A.length := by rw [setA_len] at q1; exact q1
    have p2 : i2 < A[c2].length := by rw [setA_row q1 p1] at q2; exact q2
    rw [setA_get q1 q2 p1 p2]
    have R := h.at_ c2 i2 p1 p2
    by_cases e : c = c2 ∧ i = i2
    · rw [if_pos e]
      obtain ⟨rfl, rfl⟩ := e
      have ef : findI (L ++ [b]) c i = some L.length := by rw [findI_snoc, hno, if_pos ⟨bc, bi⟩]; rfl
      refine ⟨fun hn => ?_, fun m hm hml => ?_⟩
      · rw [ef] at hn; cases hn
      · rw [ef] at hm
        obtain rfl : L.length = m := by simpa using hm
        simp only [List.getElem_concat_length]
        exact ⟨bh, bg, bb⟩
    · rw [if_neg e]
      have ef : findI (L ++ [b]) c2 i2 = findI L c2 i2 := by
        rw [findI_snoc, if_neg, Option.or_none]
        rw [bc, bi]
        rintro ⟨x, y⟩
        exact e ⟨by omega, by omega⟩
      refine ⟨fun hn => ?_, fun m hm hml => ?_⟩
      · rw [ef] at hn; exact R.no hn
      · rw [ef] at hm
        obtain ⟨hk2, -, -⟩ := findI_is hm
        rw [List.getElem_append_left hk2]
        exact R.yes m hm hk2
theorem rel_new (X : Nat → Int) (hX : ∀ j, j < 4 → 0 ≤ X j ∧ X j ≤ 4096) : RelS (newA X) [] := by
  have hl : (newA X).length = 4 := by simp [newA]
  have hr : ∀ c (h : c < (newA X).length), (newA X)[c] = List.replicate (X c).toNat ⟨0, 0, zeros (szN c)⟩ := by intro c h; simp [newA]
  refine ⟨⟨hl, fun c i h h2 => ?_⟩, fun j k hj => by simp at hj, fun k hk => by simp at hk, fun c i h h2 => ?_⟩
  · have : (newA X)[c][i] = ⟨0, 0, zeros (szN c)⟩ := by simp [hr c h]
    rw [this]
    exact ⟨by simp, by simp, by simp [zeros], fun _ => rfl, fun x hx => by simp only [zeros] at hx; have := (List.mem_replicate.1 hx).2; omega⟩
  · have : (newA X)[c][i] = ⟨0, 0, zeros (szN c)⟩ := by simp [hr c h]
    rw [this]
    exact ⟨fun _ => ⟨rfl, rfl⟩, fun k hk hkl => by simp at hkl⟩
/-- the rows are as long as they were -/
def Lens (X : Nat → Int) (A : List (List ABlk)) : Prop := ∀ c (h : c < A.length), A[c].length = (X c).toNat
theorem lens_new (X : Nat → Int) : Lens X (newA X) := by intro c h; simp [newA]
theorem Lens.set {X : Nat → Int} {A : List (List ABlk)} (h : Lens X A) (c i : Int) (a : ABlk) : Lens X (setA A c i a) := by
  intro c2 h2
  have h3 : c2 < A.length := by simpa [setA] using h2
  rw [← h c2 h3]
  simp only [setA, List.getElem_modify]; split <;> simp
theorem rel_alloc {A : List (List ABlk)} {L : List RBlk} (h : RelS A L) {X : Nat → Int} (hX : Lens X A) (n : Int) (loc : Nat) :
    (allocA A n).h = ((allocL X L n loc).c, (allocL X L n loc).i, (allocL X L n loc).g) ∧ (allocA A n).e = (allocL X L n loc).e ∧ RelS (allocA A n).A (allocL X L n loc).L ∧ Lens X (allocA A n).A := by
  unfold allocA allocL
  by_cases hn : n < 0 ∨ 4096 < n
  · rw [if_pos hn, if_pos hn]; exact ⟨rfl, rfl, h, hX⟩
  rw [if_neg hn, if_neg hn]
  obtain ⟨c, hc, hc4, -, -⟩ := cls_cases (n := n) (by omega) (by omega)
  simp only [hc, Int.toNat_natCast]
  have h1 : c < A.length := by have := h.wf.len; omega
  have eA : A.getD c [] = A[c] := by simp [List.getD, h1]
  have eX : A[c].length = (X c).toNat := hX c h1
  rw [eA]
  have hfree : ∀ i (hi : i < A[c].length), freeI L c i = (A[c][i].held == 0) := fun i hi => freeA_eq h c h1 i hi
  by_cases hfull : freeA A[c] = A[c].length
  · rw [if_pos hfull]
    have : seekI (X c).toNat L c = none := by
      refine seek_none fun j hj => ?_
      rw [← eX] at hj
      rw [hfree j hj]
      have := List.not_of_lt_findIdx (p := fun b : ABlk => b.held == 0) (xs := A[c]) (i := j) (by show j < freeA A[c]; rw [hfull]; exact hj)
      simpa using this
    rw [this]
    exact ⟨rfl, rfl, h, hX⟩
  · rw [if_neg hfull]
    have hi : freeA A[c] < A[c].length := by have : freeA A[c] ≤ A[c].length := List.findIdx_le_length; omega
    obtain ⟨i, hie⟩ : ∃ i, freeA A[c] = i := ⟨_, rfl⟩
    rw [hie] at hi ⊢
    have hheld : (A[c][i].held == 0) = true := by
      have := List.findIdx_getElem (xs := A[c]) (p := fun b : ABlk => b.held == 0) (w := by show freeA A[c] < _; rw [hie]; exact hi)
      have e2 : A[c].findIdx (fun b : ABlk => b.held == 0) = i := hie
      simp only [e2] at this
      exact this
    have hs : seekI (X c).toNat L c = some i := by
      refine seek_some (by omega) (by rw [hfree i hi]; exact hheld) fun j hj => ?_
      rw [hfree j (by omega)]
      have := List.not_of_lt_findIdx (p := fun b : ABlk => b.held == 0) (xs := A[c]) (i := j) (by show j < freeA A[c]; rw [hie]; exact hj)
      simpa using this
    rw [hs]
    have h0 : A[c][i].held = 0 := by simpa using hheld
    have W := h.wf.at_ c i h1 hi
    have eD : A[c].getD i default = A[c][i] := by simp [List.getD, hi]
    have hz := W.free h0
    rw [eD]
    have R := h.at_ c i h1 hi
    have wf' : WfB (szN c) ⟨1, wrap64 (A[c][i].gen + 1), A[c][i].bytes⟩ := ⟨by simp, by simp, W.len, fun e => by simp at e, W.byte⟩
    cases hf : findI L c i with
    | none =>
      simp only [hf]
      have hg0 := (R.no hf).2
      have eg : (L ++ [nbk c i]).getD L.length ⟨0, 0, 0, 0, none, []⟩ = nbk c i := by simp [List.getD]
      have es : (L ++ [nbk c i]).set L.length (tookB (nbk c i) loc (szN c)) = L ++ [tookB (nbk c i) loc (szN c)] := by
        rw [List.set_append_right _ _ (Nat.le_refl _)]; simp
      simp only [takeL, eg, es]
      refine ⟨by rw [hg0]; rfl, by trivial, h.snoc h1 hi hf wf' rfl rfl rfl ?_ fun _ => ⟨?_, loc, rfl⟩, hX.set _ _ _⟩
      · simp only [tookB, nbk, hg0]
      · simp only [tookB, hz]
    | some k =>
      simp only [hf]
      obtain ⟨hk, e1, e2⟩ := findI_is hf
      have eg : L.getD k ⟨0, 0, 0, 0, none, []⟩ = L[k] := by simp [List.getD, hk]
      obtain ⟨y1, y2, -⟩ := R.yes k hf hk
      simp only [takeL, eg, e1, e2, y2]
      refine ⟨trivial, trivial, h.upd h1 hi hk e1 e2 wf' rfl rfl rfl ?_ fun _ => ⟨?_, loc, rfl⟩, hX.set _ _ _⟩
      · simp only [tookB, y2]
      · simp only [tookB, hz]
theorem lens_hold {X : Nat → Int} {A : List (List ABlk)} (h : Lens X A) (c i g : Int) : Lens X (Slab.holdA A c i g).A := by
  unfold Slab.holdA; split
  · simp only; split
    · exact h
    · exact h.set _ _ _
  · exact h
theorem lens_drop {X : Nat → Int} {A : List (List ABlk)} (h : Lens X A) (c i g : Int) : Lens X (Slab.dropA A c i g).A := by
  unfold Slab.dropA; split
  · exact h.set _ _ _
  · exact h
theorem lens_write {X : Nat → Int} {A : List (List ABlk)} (h : Lens X A) (c i g at_ : Int) (bs : List Int) : Lens X (Slab.writeA A c i g at_ bs).A := by
  unfold Slab.writeA; split
  · simp only; split
    · exact h
    · exact h.set _ _ _
  · exact h
end Go.Proofs.Ytefcinifaaablaa.Ref15
