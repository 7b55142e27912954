/-
  Layer 16: a chain in memory; New, state, take.
-/
import Derived.Test.YtefcinifaaablaaSlabOps
import Derived.Deep.QuietTactic
import Derived.BigQuiet
import Derived.RegionTactic
import Derived.LoopTactic
import Derived.OwnWalk
import Derived.Outline
import Derived.Deep.RegionHeld3
import Derived.Deep.DeepCutAuto
import Derived.Deep.CutBlock
namespace Go.Proofs.Ytefcinifaaablaa.Chain
open Go.RowKit Go.Sep
open Go.Proofs.Ytefcinifaaablaa.Slab (szOf szN szN_val clsFor Ar hdl hdlV ABlk allocA dropA Took)
set_option maxRecDepth 100000
set_option linter.unusedVariables false
set_option linter.unusedSimpArgs false

abbrev Hd := Int × Int × Int
def hEnc (h : Hd) : List Value := [.int .i64 h.1, .int .i64 h.2.1, .int .i64 h.2.2]
theorem hEnc_len (h : Hd) : (hEnc h).length = 3 := rfl
theorem infoH : (Try.prog.info? 106).map (fun i => (i.zero, i.size, i.bytes)) = some (some (.agg #[.int .i64 0, .int .i64 0, .int .i64 0]), 3, 24) := by kernel_rfl

structure Ch where
  l : List Hd
  long : Int
  charge : Int
  shared : Bool
  freed : Bool
def chH (c a : Nat) (v : Value) (K : Ch) : Asr := pts c (.cells #[.pointer (some ⟨a, 0, none⟩), v, .int .i64 K.long, .int .i64 K.charge, .bool K.shared, .bool K.freed] 102 (0, 0))
def hls (v : Value) (l : List Hd) : Asr := rowL 106 3 hEnc v l
def chA (c a : Nat) (K : Ch) : Asr := ex fun v => chH c a v K * hls v K.l
theorem ch_open {w : World} {c a : Nat} {K : Ch} {F : Asr} (h : Holds w (chA c a K * F)) : ∃ v, Holds w (chH c a v K * (hls v K.l * F)) := by
  unfold chA at h
  rw [ex_star] at h
  obtain ⟨v, h⟩ := holds_ex.1 h
  exact ⟨v, h.eqv (by ac_rfl)⟩
theorem ch_shut {w : World} {c a : Nat} {v : Value} {K : Ch} {F : Asr} (h : Holds w (chH c a v K * (hls v K.l * F))) : Holds w (chA c a K * F) := by
  unfold chA
  rw [ex_star]
  exact holds_ex.2 ⟨v, h.eqv (by ac_rfl)⟩
structure CSeen (w : World) (c a : Nat) (v : Value) (K : Ch) : Prop where
  lt : c < w.heap.size
  c0 : w.cell? ⟨c, 0, none⟩ = some (.pointer (some ⟨a, 0, none⟩))
  c1 : w.cell? ⟨c, 1, none⟩ = some v
  c2 : w.cell? ⟨c, 2, none⟩ = some (.int .i64 K.long)
  c3 : w.cell? ⟨c, 3, none⟩ = some (.int .i64 K.charge)
  c4 : w.cell? ⟨c, 4, none⟩ = some (.bool K.shared)
  c5 : w.cell? ⟨c, 5, none⟩ = some (.bool K.freed)
  f : ∀ j, w.frozen? ⟨c, j, none⟩ = false
theorem ch_seen {w : World} {c a : Nat} {v : Value} {K : Ch} {F : Asr} (h : Holds w (chH c a v K * F)) : CSeen w c a v K :=
  ⟨h.lt, h.cell 0, h.cell 1, h.cell 2, h.cell 3, h.cell 4, h.cell 5, h.frozen⟩
/-- what is read of a chain, wherever its slice lies -/
theorem chA_seen {w : World} {c a : Nat} {K : Ch} {F : Asr} (h : Holds w (chA c a K * F)) : ∃ v, CSeen w c a v K := by
  obtain ⟨v, h⟩ := ch_open h
  exact ⟨v, ch_seen h⟩

theorem alloc_neg (a : Nat) (A : List (List ABlk)) (F : Asr) (w : World) (hw : Holds w (Ar a A * F)) :
    Calls Try.prog 71 #[.pointer (some ⟨a, 0, none⟩), .int .i64 (-1)] w fun e w' => e = .returned (.tuple #[hdl 0 0 0, .int .i64 2]) ∧ Below w.heap.size w w' := by
  obtain ⟨m, hr, hw'⟩ := Slab.ar_open hw
  exact Slab.alloc_arg a (-1) w (.inl (by decide)) (Slab.arena_made hw') (Slab.arena_lt hw')
def stateE (K : Ch) : Int := if K.freed then 16 else 0
theorem state_calls (c a : Nat) (K : Ch) (A : List (List ABlk)) (F : Asr) (w : World) (hw : Holds w (chA c a K * (Ar a A * F))) :
    Calls Try.prog 46 #[.pointer (some ⟨c, 0, none⟩)] w fun e w' => e = .returned (.int .i64 (stateE K)) ∧ Below w.heap.size w w' := by
  obtain ⟨v, sn⟩ := chA_seen hw
  obtain ⟨cl, c0, -, -, -, -, c5, -⟩ := sn
  have AL := Lib.hid (alloc_neg a A _ w (hw.eqv (star_left_comm _ _ _)))
  have hfr : ∀ w', Below w.heap.size w w' → w'.cell? ⟨c, 5, none⟩ = some (.bool K.freed) ∧ c < w'.heap.size := fun w' h => ⟨(h.cell (p := ⟨c, 5, none⟩) cl).trans c5, Nat.lt_of_lt_of_le cl h.size⟩
  have HF := Lib.hid hfr
  obtain ⟨b, hb⟩ : ∃ b, K.freed = b := ⟨_, rfl⟩
  unfold stateE
  rw [hb] at HF c5 ⊢
  clear hfr hw hb
  go_enter Try.func46, Try.ntmps46
  go_wp2_with fail
  refine (AL.out).mono ?_
  rintro e w1 ⟨rfl, hb1⟩
  obtain ⟨x5, xl⟩ := HF.out w1 hb1
  have B1 := Lib.hid hb1
  clear hb1 AL
  simp only [hdl]
  cases b with
  | true =>
    go_wp2_with fail
    go_ret
    exact ⟨rfl, B1.out.alloc (by have := B1.out.size; omega) _⟩
  | false =>
    go_wp2_with fail
    go_ret
    exact ⟨rfl, B1.out.alloc (by have := B1.out.size; omega) _⟩
#print axioms state_calls

def NewC (a : Nat) (F : Asr) (w : World) (e : Ending) (w' : World) : Prop := ∃ c, e = .returned (.pointer (some ⟨c, 0, none⟩)) ∧ Holds w' (chA c a ⟨[], 0, 0, false, false⟩ * F) ∧ Sm w w'
theorem new_calls (a : Nat) (F : Asr) (w : World) (hw : Holds w F) : Calls Try.prog 11 #[.pointer (some ⟨a, 0, none⟩)] w (NewC a F w) := by
  have HA : Hid (Holds (w.alloc (.cells #[.pointer (some ⟨a, 0, none⟩), .slice none 0 0, .int .i64 0, .int .i64 0, .bool false, .bool false] 102)) (chA w.heap.size a ⟨[], 0, 0, false, false⟩ * F)) := by
    show Holds _ _
    have h := hw.alloc (.cells #[.pointer (some ⟨a, 0, none⟩), .slice none 0 0, .int .i64 0, .int .i64 0, .bool false, .bool false] 102)
    have h := rowL_nil (T := 106) (sz := 3) (enc := hEnc) h
    exact ch_shut (v := .slice none 0 0) (h.eqv (by unfold chH hls; ac_rfl))
  clear hw
  go_enter Try.func11, Try.ntmps11
  go_wp2_with fail
  go_ret
  exact ⟨_, rfl, HA.out, (Sm.refl w).alloc _⟩
#print axioms new_calls

/-! ### take -/
theorem fits_calls (k n : Int) (b : Nat) (w : World) (hl : b < w.heap.size) (hc : w.cell? ⟨b, 0, none⟩ = some (.int .i64 n)) :
    Calls Try.prog 91 #[.int .i64 k, .pointer (some ⟨b, 0, none⟩)] w fun e w' => e = .returned (.bool (decide (n ≤ szOf k))) ∧ ∃ m, w' = w.drewN m := by
  have SZ := Lib.hid (fun n => Slab.sizes_calls k (w.drewN n))
  obtain ⟨s, hs⟩ : ∃ s, szOf k = s := ⟨_, rfl⟩
  rw [hs] at SZ ⊢
  have SQ : Hid (∀ n, Calls Try.prog 16 #[.int .i64 k] (w.drewN n) fun e w' => e = .returned (.int .i64 s) ∧ w' = w.drewN n) := fun n => (SZ.out n).mono fun _ _ ⟨h, e⟩ => ⟨h, e.symm⟩
  clear hs SZ
  go_enter Try.func91, Try.ntmps91
  go_wp2_with fail
  go_quiet ((go_at_call 16; exact Calls.quiet_of_same (SQ.out _)))
  go_wp2_with fail
  go_ret
  exact ⟨rfl, _, rfl⟩
#print axioms fits_calls

def topC (n : Int) : Nat := if n ≤ 64 then 0 else if n ≤ 256 then 1 else if n ≤ 1024 then 2 else 3
theorem topC_le (n : Int) : topC n ≤ 3 := by unfold topC; repeat' split
                                             all_goals omega
def takeN : Nat → List (List ABlk) → Took
  | 0, A => ⟨A, (0, 0, 0), 14⟩
  | j + 1, A => if (allocA A (szOf j)).e = 0 then allocA A (szOf j) else takeN j (allocA A (szOf j)).A
def takeA (A : List (List ABlk)) (n : Int) : Took := takeN (topC n + 1) A
theorem topC_at (n : Int) (j : Nat) (hj : j ≤ 3) (hlo : ∀ i : Nat, j ≤ i → i < 3 → n ≤ szOf i) (hhi : j = 0 ∨ ¬ n ≤ szOf ((j : Int) - 1)) : topC n = j := by
  have h0 := hlo 0
  have h1 := hlo 1
  have h2 := hlo 2
  have : j = 0 ∨ j = 1 ∨ j = 2 ∨ j = 3 := by omega
  rcases this with rfl | rfl | rfl | rfl <;> simp [szOf] at h0 h1 h2 hhi <;> unfold topC <;> (repeat' split) <;> omega
def TakeC (r : Took) (c a : Nat) (K : Ch) (F : Asr) (w : World) (e : Ending) (w' : World) : Prop :=
  e = .returned (.tuple #[hdlV r.h, .int .i64 r.e]) ∧ Holds w' (chA c a K * (Ar a r.A * F)) ∧ Sm w w'
set_option maxHeartbeats 2000000 in
theorem take_calls (c a : Nat) (K : Ch) (A : List (List ABlk)) (F : Asr) (n : Int) (w : World) (hw : Holds w (chA c a K * (Ar a A * F))) :
    Calls Try.prog 72 #[.pointer (some ⟨c, 0, none⟩), .int .i64 n] w (TakeC (takeA A n) c a K F w) := by
  have HA := Lib.hid ((hw.alloc (.cells #[.int .i64 n] 3)).alloc (.cells #[.int .i64 0, .int .i64 0, .int .i64 0] 106))
  rw [World.size_alloc] at HA
  have S0 := Lib.hid (((Sm.refl w).alloc (.cells #[.int .i64 n] 3)).alloc (.cells #[.int .i64 0, .int .i64 0, .int .i64 0] 106))
  clear hw
  go_enter Try.func72, Try.ntmps72
  go_upto_block 0 with (fail)
  obtain ⟨B, hB⟩ : ∃ q, w.heap.size = q := ⟨_, rfl⟩
  obtain ⟨W0, hW0⟩ : ∃ q, (w.alloc (.cells #[.int .i64 n] 3)).alloc (.cells #[.int .i64 0, .int .i64 0, .int .i64 0] 106) = q := ⟨_, rfl⟩
  rw [hB] at HA ⊢
  rw [hW0] at HA S0 ⊢
  clear hB hW0
  go_cut [6] (fun x wc => x = .int .i64 (topC n : Nat) ∧ ∃ m, wc = W0.drewN m)
  case first =>
    go_wp2_with fail
    go_loopw [6] (fun x wr => ∃ j : Nat, j ≤ 3 ∧ x = .int .i64 j ∧ Hid (∀ i : Nat, j ≤ i → i < 3 → n ≤ szOf i) ∧ ∃ m, wr = W0.drewN m) (fun x _ => (intOf x).toNat)
    case atStart => exact ⟨3, by omega, rfl, fun i h h' => by omega, 0, rfl⟩
    case round =>
      obtain ⟨j, hj, rfl, hlo, m, rfl⟩ := hrel
      have hb := (HA.out.eqv (star_left_comm _ _ _))
      have b0 := hb.cell 0
      have bl := hb.lt
      simp at b0
      have FT := Lib.hid (fits_calls ((j : Int) - 1) n B (W0.drewN m) bl b0)
      clear hb
      by_cases h0 : 0 < j
      · have d0 : decide ((0 : Int) < (j : Int)) = true := by simp; omega
        have d0n : decide (0 < j) = true := by simp; omega
        have jw : IntKind.i64.wrap ((j : Int) - 1) = (j : Int) - 1 := IntWalk.i64_in _ (by omega)
        by_cases hn : n ≤ szOf ((j : Int) - 1)
        · rw [show decide (n ≤ szOf ((j : Int) - 1)) = true by simpa using hn] at FT
          have hlo' : Hid (∀ i : Nat, j - 1 ≤ i → i < 3 → n ≤ szOf i) := by
            intro i h1 h2
            by_cases e : i = j - 1
            · rw [e, show ((j - 1 : Nat) : Int) = (j : Int) - 1 by omega]; exact hn
            · exact hlo.out i (by omega) h2
          have je : ((j - 1 : Nat) : Int) = (j : Int) - 1 := by omega
          have JE := Lib.hid je
          clear hn je
          go_wp2_with fail
          refine (FT.out).mono ?_
          rintro e w1 ⟨rfl, m2, rfl⟩
          go_wp2_with fail
          go_roundw
          case rel => exact ⟨j - 1, by omega, by rw [JE.out], hlo', _, rfl⟩
          case measure => simp [intOf]; omega
        · rw [show decide (n ≤ szOf ((j : Int) - 1)) = false by simpa using hn] at FT
          have TC : Hid (topC n = j) := topC_at n j hj hlo.out (.inr hn)
          clear hn hlo
          go_wp2_with fail
          refine (FT.out).mono ?_
          rintro e w1 ⟨rfl, m2, rfl⟩
          go_wp2_with fail
          go_meet
          case rel => exact ⟨by rw [TC.out]; try rfl, _, rfl⟩
      · obtain rfl : j = 0 := by omega
        have TC : Hid (topC n = 0) := topC_at n 0 (by omega) hlo.out (.inl rfl)
        clear FT h0 hlo
        go_wp2_with fail
        go_meet
        case rel => exact ⟨by rw [TC.out]; try rfl, _, rfl⟩
  case rest =>
    obtain ⟨rfl, m, rfl⟩ := hcut
    have H0 : Hid (Holds (W0.drewN m) (pts (B + 1) (.cells #[.int .i64 0, .int .i64 0, .int .i64 0] 106) * (pts B (.cells #[.int .i64 n] 3) * (chA c a K * (Ar a A * F))))) := HA.out
    have T0 : Hid (takeN (topC n + 1) A = takeA A n) := rfl
    have T3 := topC_le n
    have S1 := Lib.hid (S0.out.drewN m)
    obtain ⟨W1, hW1⟩ : ∃ q, W0.drewN m = q := ⟨_, rfl⟩
    rw [hW1] at H0 S1 ⊢
    obtain ⟨t, ht⟩ : ∃ q, topC n = q := ⟨_, rfl⟩
    rw [ht] at T0 T3 ⊢
    clear HA S0 hW1 ht
    go_wp2_with fail
    go_loopw [6] (fun x wr => ∃ (j : Nat) (A' : List (List ABlk)), j ≤ 4 ∧ x = .int .i64 ((j : Int) - 1) ∧ Hid (takeN j A' = takeA A n) ∧ Hid (Holds wr (pts (B + 1) (.cells #[.int .i64 0, .int .i64 0, .int .i64 0] 106) * (pts B (.cells #[.int .i64 n] 3) * (chA c a K * (Ar a A' * F))))) ∧ Hid (Sm w wr)) (fun x _ => (intOf x + 1).toNat)
    case atStart => exact ⟨t + 1, A, by omega, by rw [show ((t + 1 : Nat) : Int) - 1 = t by omega], T0.out, H0.out, S1.out⟩
    case round =>
      clear H0 T0 S1
      obtain ⟨j, A', hj, rfl, T0, H0, S1⟩ := hrel
      have z0 := H0.out.cell 0
      have z1 := H0.out.cell 1
      have z2 := H0.out.cell 2
      have zl := H0.out.lt
      have zf0 := H0.out.frozen 0
      have zf1 := H0.out.frozen 1
      have zf2 := H0.out.frozen 2
      simp at z0 z1 z2
      cases j with
      | zero =>
        have H1 := Lib.hid (((H0.out.store 0 (.int .i64 0)).store 1 (.int .i64 0)).store 2 (.int .i64 0))
        have d0 : decide ((0 : Int) ≤ ((0 : Nat) : Int) - 1) = false := by decide
        have d1 : decide ((0 : Int) ≤ (0 : Int) - 1) = false := by decide
        have d2 : decide ((0 : Int) ≤ -1) = false := by decide
        have RS : Hid (takeA A n = ⟨A', (0, 0, 0), 14⟩) := T0.out.symm
        clear T0
        go_wp2_with fail
        exact bodyPost_ret (v := .tuple #[hdl 0 0 0, .int .i64 14]) (by simp [results, Try.results72, go_sem, hdl, *]) rfl ⟨by rw [RS.out]; rfl, by rw [RS.out]; exact H1.out.right.right, ((S1.out.setCell _ _).setCell _ _).setCell _ _⟩
      | succ i =>
        have ie : ((i + 1 : Nat) : Int) - 1 = (i : Int) := by omega
        rw [ie]
        have i0 : decide ((0 : Int) ≤ (i : Int)) = true := by simp
        have iw : IntKind.i64.wrap ((i : Int) - 1) = (i : Int) - 1 := IntWalk.i64_in _ (by omega)
        obtain ⟨s, hs⟩ : ∃ q, szOf i = q := ⟨_, rfl⟩
        have SZ := Lib.hid (fun w => hs ▸ Slab.sizes_calls i w)
        have hx := H0.out.eqv (by ac_rfl : _ = chA c a K * (pts (B + 1) (.cells #[.int .i64 0, .int .i64 0, .int .i64 0] 106) * (pts B (.cells #[.int .i64 n] 3) * (Ar a A' * F))))
        obtain ⟨v, hv⟩ := chA_seen hx
        have c0 := hv.c0
        have cl := hv.lt
        have T1 : Hid ((if (allocA A' s).e = 0 then allocA A' s else takeN i (allocA A' s).A) = takeA A n) := by
          show _ = _
          have := T0.out
          simp only [takeN, hs] at this
          exact this
        have AL := Lib.hid (fun (wq : World) (G : Asr) h => Slab.allocA_calls a A' G s wq h)
        obtain ⟨P, hP⟩ : ∃ q, pts (B + 1) (.cells #[.int .i64 0, .int .i64 0, .int .i64 0] 106) * (pts B (.cells #[.int .i64 n] 3) * (chA c a K * F)) = q := ⟨_, rfl⟩
        have HP := Lib.hid hP
        have HX : Hid (Holds wr (Ar a A' * P)) := by show Holds _ _; rw [← hP]; exact H0.out.eqv (by ac_rfl)
        have HY : Hid (Holds (wr.alloc (.cells #[.int .i64 0, .int .i64 0, .int .i64 0] 106)) (Ar a A' * (pts wr.heap.size (.cells #[.int .i64 0, .int .i64 0, .int .i64 0] 106) * P))) := (HX.out.alloc (.cells #[.int .i64 0, .int .i64 0, .int .i64 0] 106)).eqv (star_left_comm _ _ _)
        have PS : Hid (∀ (wq : World) (G : Asr), Holds wq (G * P) → (wq.cell? ⟨c, 0, none⟩ = some (.pointer (some ⟨a, 0, none⟩))) ∧ B + 1 < wq.heap.size ∧ wq.cell? ⟨B + 1, 0, none⟩ = some (.int .i64 0) ∧ wq.cell? ⟨B + 1, 1, none⟩ = some (.int .i64 0) ∧ wq.cell? ⟨B + 1, 2, none⟩ = some (.int .i64 0) ∧ ∀ j, wq.frozen? ⟨B + 1, j, none⟩ = false) := by
          intro wq G h
          rw [← hP] at h
          obtain ⟨v, hv⟩ := chA_seen (h.eqv (by ac_rfl : _ = chA c a K * (G * (pts (B + 1) (.cells #[.int .i64 0, .int .i64 0, .int .i64 0] 106) * (pts B (.cells #[.int .i64 n] 3) * F)))))
          have hz := h.eqv (star_left_comm _ _ _)
          have a0 := hz.cell 0
          have a1 := hz.cell 1
          have a2 := hz.cell 2
          simp at a0 a1 a2
          exact ⟨hv.c0, hz.lt, a0, a1, a2, hz.frozen⟩
        have FIN : Hid (∀ (wq : World) (T : Took) (G : Asr), takeA A n = T → Holds wq (G * (Ar a T.A * P)) → Holds (((wq.setCell ⟨B + 1, 0, none⟩ (.int .i64 T.h.1)).setCell ⟨B + 1, 1, none⟩ (.int .i64 T.h.2.1)).setCell ⟨B + 1, 2, none⟩ (.int .i64 T.h.2.2)) (chA c a K * (Ar a (takeA A n).A * F))) := by
          intro wq T G hT h
          rw [hT]
          rw [← hP] at h
          have h := h.eqv (by ac_rfl : _ = pts (B + 1) (.cells #[.int .i64 0, .int .i64 0, .int .i64 0] 106) * (G * pts B (.cells #[.int .i64 n] 3) * (chA c a K * (Ar a T.A * F))))
          exact (((h.store 0 (.int .i64 T.h.1)).store 1 (.int .i64 T.h.2.1)).store 2 (.int .i64 T.h.2.2)).right.right
        obtain ⟨r, hr⟩ : ∃ q, allocA A' s = q := ⟨_, rfl⟩
        rw [hr] at T1
        simp only [hr] at AL
        obtain ⟨rA, ⟨r0, r1, r2⟩, re⟩ := r
        simp only [hdlV, hdl] at AL
        clear hr hs hx hv T0 ie hP H0 z0 z1 z2 zl zf0 zf1 zf2
        go_upto_region 7 with (fail)
        go_cut [8, 9] (fun x8 x9 wc => ∃ b8 : Nat, x8 = .pointer (some ⟨b8, 0, none⟩) ∧ x9 = .int .i64 re ∧ Hid (Holds wc (pts b8 (.cells #[.int .i64 r0, .int .i64 r1, .int .i64 r2] 106) * (Ar a rA * P))) ∧ Hid (Sm w wc))
        case first =>
         go_region_held3 (fun w' => w'.cell? ⟨c, 0, none⟩ = some (.pointer (some ⟨a, 0, none⟩))) (first | exact x3 | exact x2 | exact c0 | go_keep)
           (first | (go_at_call 16; refine (SZ.out _).mono ?_; rintro e w' ⟨rfl, rfl⟩) | (go_at_call 71; refine (AL.out _ P ?_).mono ?_; (exact HX.out); rintro e w2 ⟨rfl, h2, s2⟩; have x2 := (PS.out w2 _ h2).1; have H2 := Lib.hid h2; have S2 := Lib.hid (S1.out.drew.trans s2); clear h2 s2) | (go_at_call 71; refine (AL.out _ (pts wr.heap.size (.cells #[.int .i64 0, .int .i64 0, .int .i64 0] 106) * P) ?_).mono ?_; (exact HY.out); rintro e w2 ⟨rfl, h2, s2⟩; have x2 := (PS.out w2 (Ar a rA * pts wr.heap.size (.cells #[.int .i64 0, .int .i64 0, .int .i64 0] 106)) (h2.eqv (by ac_rfl))).1; have hq := h2.eqv (star_left_comm _ _ _); have k0 := hq.cell 0; have k1 := hq.cell 1; have k2 := hq.cell 2; have kl := hq.lt; have kf0 := hq.frozen 0; have kf1 := hq.frozen 1; have kf2 := hq.frozen 2; have H2 := Lib.hid (((hq.store 0 (.int .i64 r0)).store 1 (.int .i64 r1)).store 2 (.int .i64 r2)); have x3 := (PS.out _ (pts wr.heap.size (.cells #[.int .i64 r0, .int .i64 r1, .int .i64 r2] 106) * Ar a rA) (H2.out.eqv (by simp only [List.setIfInBounds_toArray, List.set_cons_zero, List.set_cons_succ]; ac_rfl))).1; have S2 := Lib.hid ((((S1.out.alloc (.cells #[.int .i64 0, .int .i64 0, .int .i64 0] 106)).drew.trans s2).setCell ⟨wr.heap.size, 0, none⟩ (.int .i64 r0)).setCell ⟨wr.heap.size, 1, none⟩ (.int .i64 r1)); clear h2 s2 hq))
         all_goals
          go_wp2_with fail
          go_meet
          case rel =>
            first
            | exact ⟨_, rfl, rfl, H2.out, S2.out.setCell _ _⟩
            | exact ⟨_, rfl, rfl, H2.out.alloc _, S2.out.alloc _⟩
        case rest =>
          obtain ⟨b8, rfl, rfl, H3, S3⟩ := hcut
          have q0 := H3.out.cell 0
          have q1 := H3.out.cell 1
          have q2 := H3.out.cell 2
          have ql := H3.out.lt
          simp at q0 q1 q2
          obtain ⟨-, zl, z0, z1, z2, zf⟩ := PS.out wc (pts b8 (.cells #[.int .i64 r0, .int .i64 r1, .int .i64 r2] 106) * Ar a rA) (H3.out.eqv (by ac_rfl))
          have zf0 := zf 0
          have zf1 := zf 1
          have zf2 := zf 2
          clear zf c0 cl AL SZ HX HY
          by_cases hre : re = 0
          · subst hre
            have RS0 : takeA A n = ⟨rA, (r0, r1, r2), 0⟩ := by have := T1.out; rw [if_pos rfl] at this; exact this.symm
            have HF := Lib.hid (FIN.out wc ⟨rA, (r0, r1, r2), 0⟩ _ RS0 H3.out)
            have RS := Lib.hid RS0
            clear RS0 T1 FIN PS H3
            go_wp2_with fail
            exact bodyPost_ret (v := .tuple #[hdl r0 r1 r2, .int .i64 0]) (by simp [results, Try.results72, go_sem, hdl, *]) rfl ⟨by rw [RS.out]; rfl, HF.out, ((S3.out.setCell _ _).setCell _ _).setCell _ _⟩
          · have T2 : Hid (takeN i rA = takeA A n) := by have := T1.out; rw [if_neg hre] at this; exact this
            have re0 : (re == 0) = false := by simpa using hre
            have H4 : Hid (Holds wc (pts (B + 1) (.cells #[.int .i64 0, .int .i64 0, .int .i64 0] 106) * (pts B (.cells #[.int .i64 n] 3) * (chA c a K * (Ar a rA * F))))) := by
              show Holds _ _
              have h := H3.out.right
              rw [← HP.out] at h
              exact h.eqv (by ac_rfl)
            clear T1 FIN PS H3 hre
            go_wp2_with fail
            go_roundw
            case rel => exact ⟨i, rA, by omega, by go_num, T2.out, H4.out, S3.out⟩
            case measure => simp [intOf]
#print axioms take_calls
end Go.Proofs.Ytefcinifaaablaa.Chain
