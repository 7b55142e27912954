/-
  Layer 19: cool.
-/
import Derived.Test.YtmaoboepmbioiaaClockTurn
import Derived.Deep.LoopGhost
namespace Go.Proofs.Ytmaoboepmbioiaa.Clock
open Go.RowKit Go.Sep
set_option maxRecDepth 100000
set_option linter.unusedVariables false
set_option linter.unusedSimpArgs false

theorem marks_cons (p : Pg) (t : List Pg) : marks (p :: t) = (if p.mark then 1 else 0) + marks t := by
  unfold marks; rw [List.countP_cons]; split <;> omega
theorem marks_append (l k : List Pg) : marks (l ++ k) = marks l + marks k := by unfold marks; exact List.countP_append
theorem turnHot_tot (S : CS) : (turnHotS S).cold.length + (turnHotS S).hot.length + (turnHotS S).test.length = S.cold.length + S.hot.length + S.test.length := by
  unfold turnHotS
  cases h : S.hot with
  | nil => simp [h]
  | cons p t => simp only; split <;> simp <;> omega
theorem turnHot_bnd {S : CS} (h : Bnd S) : Bnd (turnHotS S) := by
  have e : (turnHotS S).most = S.most ∧ (turnHotS S).target = S.target := by
    unfold turnHotS; cases S.hot with
    | nil => exact ⟨rfl, rfl⟩
    | cons p t => simp only; split <;> exact ⟨rfl, rfl⟩
  exact ⟨by rw [e.1]; exact h.m1, by rw [e.1]; exact h.m2, by rw [e.2]; exact h.t1, by rw [e.1, e.2]; exact h.t2, by rw [turnHot_tot]; exact h.tot⟩
theorem turnHot_m {S : CS} (h : S.hot ≠ []) : coolM (turnHotS S) < coolM S := by
  unfold coolM turnHotS
  cases e : S.hot with
  | nil => exact absurd e h
  | cons p t =>
    simp only
    split
    · rename_i hm; simp [marks_append, marks_cons, hm, unmark]; try simp [marks]
      try omega
    · rename_i hm; simp [marks_cons, hm]
      try omega
theorem coolF_more (n k : Nat) (least : Int) (S : CS) (h0 : 0 ≤ least) (h : coolM S ≤ n) (hk : coolM S ≤ k) : coolF n least S = coolF k least S := by
  induction n generalizing S k with
  | zero =>
    have h1 : S.hot.length = 0 := by unfold coolM at h; omega
    cases k with
    | zero => rfl
    | succ k => simp only [coolF]; rw [if_neg (by rw [h1]; simp; omega)]
  | succ n ih =>
    cases k with
    | zero =>
      have h1 : S.hot.length = 0 := by unfold coolM at hk; omega
      simp only [coolF]; rw [if_neg (by rw [h1]; simp; omega)]
    | succ k =>
      simp only [coolF]
      split
      · rename_i hc
        have hne : S.hot ≠ [] := by rintro e; rw [e] at hc; simp at hc; omega
        have := turnHot_m hne
        exact ih k _ (by omega) (by omega)
      · rfl
theorem cool_step {least : Int} {S : CS} (h0 : 0 ≤ least) (h : max (S.most - S.target) least < (S.hot.length : Int)) : coolS least S = coolS least (turnHotS S) := by
  have hne : S.hot ≠ [] := by rintro e; rw [e] at h; simp at h; omega
  have hm := turnHot_m hne
  unfold coolS
  obtain ⟨n, hn⟩ : ∃ n, coolM S = n + 1 := ⟨coolM S - 1, by omega⟩
  rw [hn]
  simp only [coolF]
  rw [if_pos h]
  exact coolF_more _ _ _ _ h0 (by omega) (by omega)
theorem cool_stop {least : Int} {S : CS} (h : ¬ max (S.most - S.target) least < (S.hot.length : Int)) : coolS least S = S := by
  unfold coolS
  cases coolM S with
  | zero => rfl
  | succ n => simp only [coolF]; rw [if_neg h]

def many (S : CS) (least : Int) : Bool := decide (max (S.most - S.target) least < (S.hot.length : Int))
set_option maxHeartbeats 1000000 in
theorem many_calls (a b1 b2 : Nat) (S : CS) (least : Int) (F : Asr) (w : World) (hb : Bnd S) (h0 : 0 ≤ least) (h1 : least ≤ 10) (hc1 : w.cell? ⟨b1, 0, none⟩ = some (.pointer (some ⟨a, 0, none⟩))) (hc2 : w.cell? ⟨b2, 0, none⟩ = some (.int .i64 least)) (hck : Holds w (ck a S * F)) :
    Calls Try.prog 112 #[.pointer (some ⟨b1, 0, none⟩), .pointer (some ⟨b2, 0, none⟩)] w fun e w' => e = .returned (.bool (many S least)) ∧ ∃ n, w' = w.drewN n := by
  obtain ⟨D, hr, rfl, hw⟩ := ck_open hck
  clear hck
  have hh := raw_hd hw
  have a0 := hh.cell 0
  have a1 := hh.cell 1
  have a2 := hh.cell 2
  have al := hh.lt
  simp at a0 a1 a2
  rw [hr.most] at a0
  rw [hr.target] at a1
  obtain ⟨c0, c1, c2⟩ := ring_cells hr hw 2 (.inr (.inl rfl))
  have q0 := look_ring hw 2 (.inr (.inl rfl))
  have q1 : ∀ n, (Instr.lookup 156 (.map (some D.R)) (.int .i64 2) false).run Try.prog (w.drewN n) = .ok (.pointer (some ⟨D.rb 2, 0, none⟩)) (w.drewN n) := fun n => look_ring (w := w.drewN n) hw 2 (.inr (.inl rfl))
  simp [listS] at c1
  have M : Hid (many S least = decide (max (S.most - S.target) least < (S.hot.length : Int))) := rfl
  obtain ⟨n, hn⟩ : ∃ n, S.hot.length = n := ⟨_, rfl⟩
  obtain ⟨x, hx⟩ : ∃ x, S.most = x := ⟨_, rfl⟩
  obtain ⟨y, hy⟩ : ∃ y, S.target = y := ⟨_, rfl⟩
  rw [hn, hx, hy] at M
  rw [hn] at c1
  rw [hx] at a0
  rw [hy] at a1
  have b1' := hb.m1
  have b2' := hb.m2
  have b3' := hb.t1
  have b4' := hb.t2
  rw [hx] at b1' b2' b4'
  rw [hy] at b3' b4'
  have bw : IntKind.i64.wrap (x - y) = x - y := IntWalk.i64_in _ (by omega)
  clear hh hw hr hn hx hy hb c0
  go_enter Try.func112, Try.ntmps112
  go_wp2_with fail
  go_quiet (fail)
  go_wp2_with fail
  all_goals
    go_ret
    refine ⟨?_, _, rfl⟩
    rw [M.out, Int.max_def]
    clear bw
    split <;> first | rfl | (exfalso; omega) | (have e : x - y = least := by omega
                                                rw [e]; rfl)
set_option maxHeartbeats 1000000 in
theorem cool_calls (a : Nat) (S : CS) (least : Int) (F : Asr) (w : World) (hb : Bnd S) (h0 : 0 ≤ least) (h1 : least ≤ 10) (hck : Holds w (ck a S * F)) :
    Calls Try.prog 87 #[.pointer (some ⟨a, 0, none⟩), .int .i64 least] w (Now a (coolS least S) F w) := by
  have hA := Holds.alloc (Holds.alloc hck (.cells #[.pointer (some ⟨a, 0, none⟩)] 55)) (.cells #[.int .i64 least] 3)
  have HA := Lib.hid hA
  have B := Lib.hid hb
  clear hA hck hb
  go_enter Try.func87, Try.ntmps87
  go_wp2_with fail
  go_loopg [] (coolM S) (fun k wr => ∃ S', Hid (Bnd S') ∧ Hid (coolM S' ≤ k) ∧ Hid (coolS least S' = coolS least S) ∧ Hid (Holds wr (pts (w.heap.size + 1) (.cells #[.int .i64 least] 3 (0, 0)) * (pts w.heap.size (.cells #[.pointer (some ⟨a, 0, none⟩)] 55 (0, 0)) * (ck a S' * F)))) ∧ Hid (Sm w wr))
  case atStart => exact ⟨S, B.out, Nat.le_refl _, rfl, HA.out.eqv (by simp), ((Sm.refl w).alloc _).alloc _⟩
  case round =>
    clear HA B
    obtain ⟨S', B', M', E', H', K'⟩ := hrel
    have hc2 := H'.out.cell 0
    have hc1 := (H'.out.eqv (star_left_comm _ _ _)).cell 0
    have hl2 := H'.out.lt
    have hl1 := (H'.out.eqv (star_left_comm _ _ _)).lt
    simp at hc1 hc2
    have hck : Holds wr (ck a S' * (pts (w.heap.size + 1) (.cells #[.int .i64 least] 3 (0, 0)) * (pts w.heap.size (.cells #[.pointer (some ⟨a, 0, none⟩)] 55 (0, 0)) * F))) := H'.out.eqv (by ac_rfl)
    have MC := Lib.hid (many_calls a w.heap.size (w.heap.size + 1) S' least _ wr B'.out h0 h1 hc1 hc2 hck)
    cases hm : many S' least with
    | true =>
      have hlt : max (S'.most - S'.target) least < (S'.hot.length : Int) := by simpa [many] using hm
      have hne : S'.hot ≠ [] := by rintro e; rw [e] at hlt; simp at hlt; omega
      have TH := Lib.hid (fun (wq : World) h => turnHot_calls a S' (pts (w.heap.size + 1) (.cells #[.int .i64 least] 3 (0, 0)) * (pts w.heap.size (.cells #[.pointer (some ⟨a, 0, none⟩)] 55 (0, 0)) * F)) wq B'.out hne h)
      have CK := Lib.hid hck
      have NM := Lib.hid (turnHot_m hne)
      have NE : Hid (coolS least (turnHotS S') = coolS least S) := by show _ = _; rw [← cool_step h0 hlt]; exact E'.out
      rw [hm] at MC
      clear hck hlt hne hm
      go_wp2_with fail
      refine (MC.out).mono ?_
      rintro e w1 ⟨rfl, n, rfl⟩
      go_wp2_with fail
      refine (TH.out (wr.drewN n) CK.out).mono ?_
      rintro e w2 ⟨rfl, k1, k2⟩
      have H2 : Hid (Holds w2 (pts (w.heap.size + 1) (.cells #[.int .i64 least] 3 (0, 0)) * (pts w.heap.size (.cells #[.pointer (some ⟨a, 0, none⟩)] 55 (0, 0)) * (ck a (turnHotS S') * F)))) := k1.eqv (by ac_rfl)
      have K2 := Lib.hid ((K'.out.drewN n).trans k2)
      clear k1 k2 H'
      go_wp2_with fail
      go_roundg (gk - 1)
      case measure => have := NM.out; have := M'.out; omega
      case rel => exact ⟨turnHotS S', turnHot_bnd B'.out, by show _ ≤ _; have := NM.out; have := M'.out; omega, NE.out, H2.out, K2.out⟩
    | false =>
      have hlt : ¬ max (S'.most - S'.target) least < (S'.hot.length : Int) := by simpa [many] using hm
      have CK := Lib.hid hck
      have NE : Hid (S' = coolS least S) := by show _ = _; rw [← cool_stop hlt]; exact E'.out
      rw [hm] at MC
      clear hck hlt hm
      go_wp2_with fail
      refine (MC.out).mono ?_
      rintro e w1 ⟨rfl, n, rfl⟩
      go_wp2_with fail
      go_end0
      refine ⟨rfl, ?_, K'.out.drewN n⟩
      rw [← NE.out]
      exact Holds.left ((CK.out : Holds (wr.drewN n) _).eqv (by ac_rfl : _ = ck a S' * F * (pts (w.heap.size + 1) (.cells #[.int .i64 least] 3 (0, 0)) * pts w.heap.size (.cells #[.pointer (some ⟨a, 0, none⟩)] 55 (0, 0)))))
#print axioms cool_calls
end Go.Proofs.Ytmaoboepmbioiaa.Clock
