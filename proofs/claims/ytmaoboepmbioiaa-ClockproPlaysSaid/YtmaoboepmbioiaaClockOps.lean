/-
  Layer 19: Evict, Touch, Remove.
-/
import Derived.Test.YtmaoboepmbioiaaClockCold
namespace Go.Proofs.Ytmaoboepmbioiaa.Clock
open Go.RowKit Go.Sep
set_option maxRecDepth 100000
set_option linter.unusedVariables false
set_option linter.unusedSimpArgs false

theorem ColdKeeps.bnd {S : CS} {r : Went} (K : ColdKeeps S r) (h : Bnd S) : Bnd r.S := by
  have h1 := h.m1
  have h2 := h.t2
  have h3 := K.t2
  exact ⟨by rw [K.most]; exact h.m1, by rw [K.most]; exact h.m2, K.t1 h.t1, by rw [K.most]; omega, Nat.le_trans K.tot h.tot⟩
theorem EvictKeeps.bnd {S : CS} {r : Went} (K : EvictKeeps S r) (h : Bnd S) : Bnd r.S := by
  have h1 := h.m1
  have h2 := h.t2
  have h3 := K.t2
  exact ⟨by rw [K.most]; exact h.m1, by rw [K.most]; exact h.m2, K.t1 h.t1, by rw [K.most]; omega, Nat.le_trans K.tot h.tot⟩
set_option maxHeartbeats 1000000 in
theorem evict_calls (a : Nat) (S : CS) (F : Asr) (w : World) (hb : Bnd S) (hck : Holds w (ck a S * F)) :
    Calls Try.prog 37 #[.pointer (some ⟨a, 0, none⟩)] w (TurnC (evictS S) a F w) := by
  have HC := Lib.hid hck
  have N0 := Lib.hid (none_calls a S F w hck)
  have B := Lib.hid hb
  clear hck hb
  go_enter Try.func37, Try.ntmps37
  go_wp2_with (go_at_call 83; refine (N0.out).mono ?_; rintro e w' ⟨rfl, rfl⟩)
  go_loopg [] (allMarks S) (fun k wr => ∃ S', Hid (Bnd S') ∧ Hid (allMarks S' ≤ k) ∧ Hid (evictS S' = evictS S) ∧ Hid (Holds wr (ck a S' * F)) ∧ Hid (Sm w wr))
  case atStart => exact ⟨S, B.out, Nat.le_refl _, rfl, HC.out, Sm.refl w⟩
  case round =>
    clear HC B N0
    obtain ⟨S', B', M', E', H', K'⟩ := hrel
    have TH := Lib.hid (there_calls a S' F wr B'.out H'.out)
    by_cases h0 : 0 < thereS S'
    · have TC := Lib.hid (fun (wq : World) h => turnCold_calls a S' F wq B'.out h0 h)
      have K := Lib.hid (turnCold_keeps S' h0)
      have ST : Hid (evictS S = if (turnColdS S').ok then turnColdS S' else evictS (turnColdS S').S) := by show _ = _; rw [← E'.out, evict_step, if_pos h0]
      obtain ⟨n, hn⟩ : ∃ n, thereS S' = n := ⟨_, rfl⟩
      rw [hn] at TH h0
      have d0 : decide (0 < n) = true := by simpa using h0
      clear hn h0 E'
      obtain ⟨r, hr⟩ : ∃ r, turnColdS S' = r := ⟨_, rfl⟩
      rw [hr] at TC K ST
      clear hr
      obtain ⟨rS, rid, rok⟩ := r
      cases rok with
      | true =>
        go_wp2_with fail
        refine (TH.out).mono ?_
        rintro e w1 ⟨rfl, m, rfl⟩
        go_wp2_with fail
        refine (TC.out (wr.drewN m) H'.out).mono ?_
        rintro e w2 ⟨rfl, k1, k2⟩
        have H2 := Lib.hid k1
        have K2 := Lib.hid ((K'.out.drewN m).trans k2)
        clear k1 k2
        go_wp2_with fail
        go_ret2
        exact ⟨by rw [ST.out]; rfl, by rw [ST.out]; exact H2.out, K2.out⟩
      | false =>
        go_wp2_with fail
        refine (TH.out).mono ?_
        rintro e w1 ⟨rfl, m, rfl⟩
        go_wp2_with fail
        refine (TC.out (wr.drewN m) H'.out).mono ?_
        rintro e w2 ⟨rfl, k1, k2⟩
        have H2 := Lib.hid k1
        have K2 := Lib.hid ((K'.out.drewN m).trans k2)
        clear k1 k2
        go_wp2_with fail
        go_roundg (gk - 1)
        case measure => have := (K.out.no rfl).2.2.1; have := M'.out; simp only at *; omega
        case rel => exact ⟨rS, K.out.bnd B'.out, by show _ ≤ _; have := (K.out.no rfl).2.2.1; have := M'.out; simp only at *; omega, by show _ = _; rw [ST.out]; rfl, H2.out, K2.out⟩
    · have ST : Hid (evictS S = ⟨S', 0, false⟩) := by show _ = _; rw [← E'.out, evict_step, if_neg h0]
      obtain hn : thereS S' = 0 := by omega
      rw [hn] at TH
      clear hn h0 E'
      go_wp2_with fail
      refine (TH.out).mono ?_
      rintro e w1 ⟨rfl, m, rfl⟩
      go_wp2_with fail
      go_ret2
      exact ⟨by rw [ST.out]; rfl, by rw [ST.out]; exact H'.out, K'.out.drewN m⟩
#print axioms evict_calls

theorem Rel.one {D : Raw} {S : CS} (h : Rel D S) (hn : (D.E.map Prod.fst).Nodup) {k j : Int} {b c : Nat} (hb : b ∈ D.L k) (hc : c ∈ D.L j) (e : (D.f b).id = (D.f c).id) : b = c := by
  have h1 := (h.pages (D.f b).id b).2 ⟨k, hb, rfl⟩
  have h2 := (h.pages (D.f c).id c).2 ⟨j, hc, rfl⟩
  rw [e] at h1
  exact nodup_mem_eq hn h1 h2
theorem Rel.markIn {D : Raw} {S : CS} (h : Rel D S) (hn : (D.E.map Prod.fst).Nodup) {k j : Int} {b : Nat} (hb : b ∈ D.L k) : (D.L j).map (pgOf (up D.f b { D.f b with mark := true })) = markIn (listS S j) (D.f b).id := by
  rw [← h.list j, Clock.markIn, List.map_map]
  refine List.map_congr_left fun x hx => ?_
  by_cases e : x = b
  · subst e; simp [pgOf, up]
  · have : (D.f x).id ≠ (D.f b).id := fun e' => e (h.one hn hx hb e')
    simp [pgOf, up, e, this]
theorem markIn_no {l : List Pg} {id : Int} (h : has l id = false) : markIn l id = l := by
  unfold markIn
  rw [List.map_congr_left (g := fun p => p), List.map_id']
  intro p hp
  have : (p.id == id) = false := by
    cases e : p.id == id with
    | false => rfl
    | true => exact absurd (List.any_eq_true.2 ⟨p, hp, e⟩) (by unfold has at h; rw [h]; simp)
  rw [this]; rfl
def isHere (k : Int) : Bool := k == 1 || k == 2
set_option maxHeartbeats 1000000 in
theorem touch_calls (a : Nat) (S : CS) (F : Asr) (w : World) (id : Int) (hid : okK id) (hck : Holds w (ck a S * F)) :
    Calls Try.prog 35 #[.pointer (some ⟨a, 0, none⟩), .int .i64 id] w fun e w' => e = .returned (.bool (isHere (kindS S id))) ∧ Holds w' (ck a (touchS S id) * F) ∧ Sm w w' := by
  have KD := Lib.hid (kind_calls a S F w id hid hck)
  obtain ⟨D, hr, ha, hw⟩ := ck_open hck
  subst ha
  have hn := mapA_nodup intK (raw_P hw)
  have stay : kindS S id ≠ 1 → kindS S id ≠ 2 → (has S.cold id = false ∧ has S.hot id = false) := by
    intro h1 h2
    unfold kindS at h1 h2
    cases e1 : has S.cold id with
    | true => simp [e1] at h1
    | false =>
      cases e2 : has S.hot id with
      | true => simp [e1, e2] at h2
      | false => exact ⟨rfl, rfl⟩
  rcases hr.kind id hn with ⟨-, e2, -⟩ | ⟨b, k, hk, e1, hb, hbi, e2, e3, e4⟩
  · have ⟨s1, s2⟩ := stay (by rw [e2]; decide) (by rw [e2]; decide)
    have TS : Hid (touchS S id = S) := by show _ = _; unfold touchS; rw [markIn_no s1, markIn_no s2]
    have HC := Lib.hid hck
    rw [e2] at KD ⊢
    clear hr hw hn stay e2 s1 s2 hck
    go_enter Try.func35, Try.ntmps35
    go_wp2_with (go_at_call 41; refine (KD.out).mono ?_; rintro e w' ⟨rfl, rfl⟩)
    go_ret
    exact ⟨rfl, by rw [TS.out]; exact HC.out, Sm.refl _⟩
  · by_cases h3 : k = 3
    · subst h3
      have ⟨s1, s2⟩ := stay (by rw [e2]; decide) (by rw [e2]; decide)
      have TS : Hid (touchS S id = S) := by show _ = _; unfold touchS; rw [markIn_no s1, markIn_no s2]
      have HC := Lib.hid hck
      rw [e2] at KD ⊢
      clear hr hw hn stay e2 s1 s2 hck e1 hb hbi e3 e4 hk
      go_enter Try.func35, Try.ntmps35
      go_wp2_with (go_at_call 41; refine (KD.out).mono ?_; rintro e w' ⟨rfl, rfl⟩)
      go_ret
      exact ⟨rfl, by rw [TS.out]; exact HC.out, Sm.refl _⟩
    · have hpb := hr.wf.sub k b hb
      have hnn := raw_nodes hw
      have p2 := nodes_cell hnn hpb hr.wf.nd 2
      have pf := nodes_frozen hnn hpb hr.wf.nd 2
      have pl := nodes_lt hnn hpb hr.wf.nd
      simp [Nd.cs] at p2
      have hd := raw_seen hw
      obtain ⟨al, -, -, -, a3, -⟩ := hd
      have lk := mapA_look false intK Try.underlying157 (z := .pointer none) (fun w => by kernel_rfl) (raw_P hw) id hid
      simp [e1, pa, iK] at lk
      have H1 := raw_nodes' (nodes_store hnn hpb hr.wf.nd 2 (.bool true) { D.f b with mark := true } rfl)
      have R1 := hr.marked b true
      rw [hr.markIn hn hb (j := 1), hr.markIn hn hb (j := 2), hr.markIn hn hb (j := 3), hbi, show listS S 3 = S.test from rfl, markIn_no (show has S.test id = false from e4 3 (Ne.symm h3))] at R1
      have H2 : Hid (Holds (w.setCell ⟨b, 2, none⟩ (.bool true)) (ck D.a (touchS S id) * F)) := ck_shut (D := { D with f := up D.f b { D.f b with mark := true } }) R1 H1
      rw [e2] at KD ⊢
      have hk' : k = 1 ∨ k = 2 := by rcases hk with h | h | h <;> simp_all
      clear hr hw hn stay e2 hck e1 hb hbi e3 e4 hk hpb hnn H1 R1 h3
      rcases hk' with rfl | rfl
      all_goals
        go_enter Try.func35, Try.ntmps35
        go_wp2_with (go_at_call 41; refine (KD.out).mono ?_; rintro e w' ⟨rfl, rfl⟩)
        go_ret
        exact ⟨rfl, H2.out, (Sm.refl _).setCell _ _⟩
#print axioms touch_calls

theorem outOf_no {l : List Pg} {id : Int} (h : has l id = false) : outOf l id = l := by
  unfold outOf
  refine List.filter_eq_self.2 fun p hp => ?_
  cases e : p.id == id with
  | false => simpa using e
  | true => exact absurd (List.any_eq_true.2 ⟨p, hp, e⟩) (by unfold has at h; rw [h]; simp)
theorem Rel.outOf {D : Raw} {S : CS} (h : Rel D S) (hn : (D.E.map Prod.fst).Nodup) {k j : Int} {b : Nat} (hb : b ∈ D.L k) : (outL D.L b j).map (pgOf D.f) = outOf (listS S j) (D.f b).id := by
  rw [← h.list j, Clock.outOf, outL, List.filter_map]
  congr 1
  refine List.filter_congr fun x hx => ?_
  by_cases e : x = b
  · subst e; simp [pgOf]
  · have : (D.f x).id ≠ (D.f b).id := fun e' => e (h.one hn hx hb e')
    have h1 : (x != b) = true := by simpa using e
    have h2 : ((D.f x).id != (D.f b).id) = true := by simpa using this
    simp [pgOf, h1, h2]
/-- drop, of the page that an id leads to -/
theorem drop_page {D : Raw} {S : CS} {F : Asr} {w : World} (hr : Rel D S) (hw : Holds w (rawA D * F)) {k id : Int} {b : Nat} (hk : isK k) (hb : b ∈ D.L k) (hbi : (D.f b).id = id) :
    Calls Try.prog 84 #[.pointer (some ⟨D.a, 0, none⟩), .pointer (some ⟨b, 0, none⟩)] w (Now D.a (removeS S id) F w) := by
  have hn := mapA_nodup intK (raw_P hw)
  refine (drop_calls D F w b k hk hb (hr.ids k b hb) hr.wf hw).mono ?_
  rintro e w' ⟨rfl, f', k1, k2, k3, k4⟩
  have R := hr.dropped hn hb k1 k2
  rw [hr.outOf hn hb, hr.outOf hn hb, hr.outOf hn hb, hbi] at R
  rw [hbi] at k3
  exact ⟨rfl, ck_shut (D := { D with L := outL D.L b, f := f', E := delK D.E id }) R k3, k4⟩
set_option maxHeartbeats 1000000 in
theorem remove_calls (a : Nat) (S : CS) (F : Asr) (w : World) (id : Int) (hid : okK id) (hck : Holds w (ck a S * F)) :
    Calls Try.prog 39 #[.pointer (some ⟨a, 0, none⟩), .int .i64 id] w fun e w' => e = .returned (.bool (kindS S id != 0)) ∧ Holds w' (ck a (removeS S id) * F) ∧ Sm w w' := by
  have KD := Lib.hid (kind_calls a S F w id hid hck)
  obtain ⟨D, hr, ha, hw⟩ := ck_open hck
  subst ha
  have hn := mapA_nodup intK (raw_P hw)
  rcases hr.kind id hn with ⟨-, e2, e3⟩ | ⟨b, k, hk, e1, hb, hbi, e2, e3, e4⟩
  · have TS : Hid (removeS S id = S) := by
      show _ = _
      unfold removeS; rw [outOf_no (show has S.cold id = false from e3 1), outOf_no (show has S.hot id = false from e3 2), outOf_no (show has S.test id = false from e3 3)]
    have HC := Lib.hid hck
    rw [e2] at KD ⊢
    clear hr hw hn e2 e3 hck
    go_enter Try.func39, Try.ntmps39
    go_wp2_with (go_at_call 41; refine (KD.out).mono ?_; rintro e w' ⟨rfl, rfl⟩)
    go_ret
    exact ⟨rfl, by rw [TS.out]; exact HC.out, Sm.refl _⟩
  · have hd := raw_seen hw
    obtain ⟨al, -, -, -, a3, -⟩ := hd
    have lk := mapA_look false intK Try.underlying157 (z := .pointer none) (fun w => by kernel_rfl) (raw_P hw) id hid
    simp [e1, pa, iK] at lk
    have DP := Lib.hid (drop_page hr hw hk hb hbi)
    rw [e2] at KD ⊢
    have hk0 : (k == 0) = false := by rcases hk with rfl | rfl | rfl <;> decide
    have hk1 : (k != 0) = true := by rcases hk with rfl | rfl | rfl <;> decide
    rw [hk1]
    clear hr hw hn e2 hck e1 hb hbi e3 e4 hk hk1
    go_enter Try.func39, Try.ntmps39
    go_wp2_with (go_at_call 41; refine (KD.out).mono ?_; rintro e w' ⟨rfl, rfl⟩)
    refine (DP.out).mono ?_
    rintro e w1 ⟨rfl, k1, k2⟩
    have K1 := Lib.hid k1
    have K2 := Lib.hid k2
    clear k1 k2
    go_wp2_with fail
    go_ret
    exact ⟨rfl, K1.out, K2.out⟩
#print axioms remove_calls
end Go.Proofs.Ytmaoboepmbioiaa.Clock
