/-
  Layer 19: turnCold.
-/
import Derived.Test.YtmaoboepmbioiaaClockPure
namespace Go.Proofs.Ytmaoboepmbioiaa.Clock
open Go.RowKit Go.Sep
set_option maxRecDepth 100000
set_option linter.unusedVariables false
set_option linter.unusedSimpArgs false

theorem kind_calls (a : Nat) (S : CS) (F : Asr) (w : World) (id : Int) (hid : okK id) (hck : Holds w (ck a S * F)) :
    Calls Try.prog 41 #[.pointer (some ⟨a, 0, none⟩), .int .i64 id] w fun e w' => e = .returned (.int .i64 (kindS S id)) ∧ w = w' := by
  obtain ⟨D, hr, rfl, hw⟩ := ck_open hck
  exact kind_raw D S F w id hid hr hw
theorem count_calls (a : Nat) (S : CS) (F : Asr) (w : World) (k : Int) (hk : okK k) (hck : Holds w (ck a S * F)) :
    Calls Try.prog 43 #[.pointer (some ⟨a, 0, none⟩), .int .i64 k] w fun e w' => e = .returned (.int .i64 ((listS S k).length : Nat)) ∧ w = w' := by
  obtain ⟨D, hr, rfl, hw⟩ := ck_open hck
  exact count_raw D S F w k hk hr hw
theorem target_calls (a : Nat) (S : CS) (F : Asr) (w : World) (hck : Holds w (ck a S * F)) :
    Calls Try.prog 44 #[.pointer (some ⟨a, 0, none⟩)] w fun e w' => e = .returned (.int .i64 S.target) ∧ w = w' := by
  obtain ⟨D, hr, rfl, hw⟩ := ck_open hck
  exact target_raw D S F w hr hw
theorem there_calls (a : Nat) (S : CS) (F : Asr) (w : World) (hb : Bnd S) (hck : Holds w (ck a S * F)) :
    Calls Try.prog 85 #[.pointer (some ⟨a, 0, none⟩)] w fun e w' => e = .returned (.int .i64 (thereS S : Nat)) ∧ ∃ n, w' = w.drewN n := by
  obtain ⟨D, hr, rfl, hw⟩ := ck_open hck
  exact there_raw D S F w hr (by have := hb.tot; omega) hw
theorem none_calls (a : Nat) (S : CS) (F : Asr) (w : World) (hck : Holds w (ck a S * F)) : Calls Try.prog 83 #[.pointer (some ⟨a, 0, none⟩)] w fun e w' => e = .returned (.bool false) ∧ w = w' := by
  obtain ⟨D, hr, rfl, hw⟩ := ck_open hck
  exact none_raw D F w hw

structure Hd (w : World) (a : Nat) (D : Raw) : Prop where
  lt : a < w.heap.size
  c0 : w.cell? ⟨a, 0, none⟩ = some (.int .i64 D.most)
  c1 : w.cell? ⟨a, 1, none⟩ = some (.int .i64 D.target)
  c2 : w.cell? ⟨a, 2, none⟩ = some (.map (some D.R))
  c3 : w.cell? ⟨a, 3, none⟩ = some (.map (some D.P))
  fz : w.frozen? ⟨a, 1, none⟩ = false
theorem raw_seen {w : World} {D : Raw} {F : Asr} (h : Holds w (rawA D * F)) : Hd w D.a D := by
  have hh := raw_hd h
  exact ⟨hh.lt, hh.cell 0, hh.cell 1, hh.cell 2, hh.cell 3, hh.frozen 1⟩
theorem raw_target {w : World} {D : Raw} {F : Asr} (h : Holds w (rawA D * F)) (t : Int) : Holds (w.setCell ⟨D.a, 1, none⟩ (.int .i64 t)) (rawA { D with target := t } * F) := by
  have := Holds.store (raw_hd h) 1 (.int .i64 t)
  exact Holds.eqv this (by unfold rawA hdA; simp only; simp; ac_rfl)

theorem Rel.dropped {D : Raw} {S : CS} (h : Rel D S) (hn : (D.E.map Prod.fst).Nodup) {p : Nat} {j : Int} (hp : p ∈ D.L j) {f' : Nat → Nd} (hwf : Wf (outL D.L p) f' D.bs) (hf : ∀ b, (f' b).id = (D.f b).id ∧ (f' b).mark = (D.f b).mark) :
    Rel { D with L := outL D.L p, f := f', E := delK D.E (D.f p).id } { S with cold := (outL D.L p 1).map (pgOf D.f), hot := (outL D.L p 2).map (pgOf D.f), test := (outL D.L p 3).map (pgOf D.f) } := by
  have e : pgOf f' = pgOf D.f := funext fun b => by simp [pgOf, hf b]
  refine ⟨hwf, h.most, h.target, by simp only [e], by simp only [e], by simp only [e], fun i b => ?_, fun i b hb => ?_⟩
  · simp only [hf]
    rw [mem_delK, h.pages i b]
    constructor
    · rintro ⟨hne, q, hq, rfl⟩
      exact ⟨q, List.mem_filter.2 ⟨hq, by simpa using fun e : b = p => hne (by rw [e])⟩, rfl⟩
    · rintro ⟨q, hq, rfl⟩
      obtain ⟨hq, hbp⟩ := List.mem_filter.1 hq
      refine ⟨fun e => ?_, q, hq, rfl⟩
      have h1 := (h.pages (D.f b).id b).2 ⟨q, hq, rfl⟩
      have h2 := (h.pages (D.f p).id p).2 ⟨j, hp, rfl⟩
      rw [e] at h1
      simp at hbp
      exact hbp (nodup_mem_eq hn h1 h2)
  · simp only [hf]
    exact h.ids i b (List.mem_filter.1 hb).1

def TurnC (r : Went) (a : Nat) (F : Asr) (w : World) (e : Ending) (w' : World) : Prop := e = .returned (.tuple #[.int .i64 r.id, .bool r.ok]) ∧ Holds w' (ck a r.S * F) ∧ Sm w w'
set_option maxHeartbeats 4000000 in
theorem turnCold_calls (a : Nat) (S : CS) (F : Asr) (w : World) (hb : Bnd S) (h0 : 0 < thereS S) (hck : Holds w (ck a S * F)) :
    Calls Try.prog 91 #[.pointer (some ⟨a, 0, none⟩)] w (TurnC (turnColdS S) a F w) := by
  have HC := Lib.hid hck
  have B := Lib.hid hb
  have T0 := Lib.hid h0
  clear hck hb h0
  go_enter Try.func91, Try.ntmps91
  go_wp2_with fail
  go_loopg [] (chillM S) (fun k wr => ∃ S', Hid (Bnd S') ∧ Hid (0 < thereS S') ∧ Hid (chillM S' ≤ k) ∧ Hid (chillS S' = chillS S) ∧ Hid (Holds wr (ck a S' * F)) ∧ Hid (Sm w wr))
  case atStart => exact ⟨S, B.out, T0.out, Nat.le_refl _, rfl, HC.out, Sm.refl w⟩
  case round =>
    clear HC B T0
    obtain ⟨S', B', T', M', E', H', K'⟩ := hrel
    obtain ⟨D, hr, ha, hw⟩ := ck_open H'.out
    subst ha
    have hd := raw_seen hw
    obtain ⟨al, a0, a1, a2, a3, af⟩ := hd
    obtain ⟨r0, r1, rl⟩ := ring_cells hr hw 1 (.inl rfl)
    have lk := look_ring hw 1 (.inl rfl)
    simp [listS] at r1
    by_cases hc : S'.cold.length = 0
    · have hne : S'.hot ≠ [] := by
        have := T'.out; unfold thereS at this
        rintro e; rw [e] at this; simp at this; omega
      have TH := Lib.hid (turnHot_calls D.a S' F wr B'.out hne H'.out)
      have NM := Lib.hid (chill_m hne hc)
      have NE : Hid (chillS (turnHotS S') = chillS S) := by show _ = _; rw [← chill_step hc hne]; exact E'.out
      have NT : Hid (0 < thereS (turnHotS S')) := by show _ < _; rw [(turnHot_most S').2.2.2.1]; exact T'.out
      rw [hc] at r1
      clear hr hw hne hc H' T' E' a0 a1 a3 af r0
      go_wp2_with fail
      refine (TH.out).mono ?_
      rintro e w1 ⟨rfl, k1, k2⟩
      have H2 := Lib.hid k1
      have K2 := Lib.hid (K'.out.trans k2)
      clear k1 k2
      go_wp2_with fail
      go_roundg (gk - 1)
      case measure => have := NM.out; have := M'.out; omega
      case rel => exact ⟨turnHotS S', turnHot_bnd B'.out, NT.out, by show _ ≤ _; have := NM.out; have := M'.out; omega, NE.out, H2.out, K2.out⟩
    · have NE : Hid (turnColdS S = coldS S') := by show _ = _; rw [turnColdS_eq, ← E'.out, chill_stop hc]
      obtain ⟨p, t, hl⟩ : ∃ p t, D.L 1 = p :: t := by
        cases h : D.L 1 with
        | nil => exact absurd (by rw [← hr.cold, h]; rfl) hc
        | cons p t => exact ⟨p, t, rfl⟩
      have hcl : S'.cold = pgOf D.f p :: t.map (pgOf D.f) := by rw [← hr.cold, hl]; rfl
      have hp : p ∈ D.L 1 := by rw [hl]; simp
      have hpb := hr.wf.sub 1 p hp
      have hn := raw_nodes hw
      have p0 := nodes_cell hn hpb hr.wf.nd 0
      have p2 := nodes_cell hn hpb hr.wf.nd 2
      have pf := nodes_frozen hn hpb hr.wf.nd 2
      have pl := nodes_lt hn hpb hr.wf.nd
      simp [Nd.cs] at p0 p2
      simp [hl, pt] at r0
      have hpt : p ∉ t := by have := hr.wf.ln 1; rw [hl] at this; exact (List.nodup_cons.1 this).1
      have hp2 : p ∉ D.L 2 := fun h => absurd ((hr.wf.kind 2 p h).1.symm.trans (hr.wf.kind 1 p hp).1) (by decide)
      have hp3 : p ∉ D.L 3 := fun h => absurd ((hr.wf.kind 3 p h).1.symm.trans (hr.wf.kind 1 p hp).1) (by decide)
      obtain ⟨o1, o2⟩ := out_head hr.wf hl
      have sz : ∀ k, (D.L k).length < 9000 := fun k => by
        have h1 := B'.out.tot
        have := congrArg List.length (hr.list k)
        simp only [List.length_map] at this
        rw [this]
        unfold listS
        repeat' split
        all_goals first | omega | simp
      obtain ⟨n, hn1⟩ : ∃ n, S'.cold.length = n + 1 := ⟨S'.cold.length - 1, by omega⟩
      have hne : ((n : Int) + 1 == 0) = false := by simp; omega
      rw [hn1] at r1
      simp only [Int.natCast_add, Int.cast_ofNat_Int] at r1
      cases hm : (D.f p).mark with
      | true =>
        rw [hm] at p2
        have H1 := raw_nodes' (nodes_store hn hpb hr.wf.nd 2 (.bool false) { D.f p with mark := false } rfl)
        have R1 := hr.marked p false
        have MV := move_calls { D with f := up D.f p { D.f p with mark := false } } F _ p 2 1 (.inr (.inl rfl)) (.inl rfl) hp (sz 2) R1.wf H1
        have MV' : Hid (Calls Try.prog 86 #[.pointer (some ⟨D.a, 0, none⟩), .pointer (some ⟨p, 0, none⟩), .int .i64 2] (wr.setCell ⟨p, 2, none⟩ (.bool false)) (Now D.a { S' with cold := t.map (pgOf D.f), hot := S'.hot ++ [unmark (pgOf D.f p)] } F wr)) := by
          refine MV.mono ?_
          rintro e w' ⟨rfl, f', k1, k2, k3, k4⟩
          refine ⟨rfl, ?_, ((Sm.refl wr).setCell _ _).trans k4⟩
          have R2 := R1.moved hp (.inr (.inl rfl)) k1 k2
          have := ck_shut R2 k3
          have i1 : inL (outL D.L p) p 2 1 = t := by simp [inL, o1]
          have i2 : inL (outL D.L p) p 2 2 = D.L 2 ++ [p] := by simp [inL, o2 2 (by decide)]
          have i3 : inL (outL D.L p) p 2 3 = D.L 3 := by simp [inL, o2 3 (by decide)]
          rw [i1, i2, i3, map_up_other hpt, map_up_other hp3, List.map_append, map_up_other hp2, hr.hot, hr.test] at this
          have e : [p].map (pgOf (up D.f p { D.f p with mark := false })) = [unmark (pgOf D.f p)] := by simp [pgOf, up, unmark]
          rw [e] at this
          exact this
        have B2 : Hid (Bnd { S' with cold := t.map (pgOf D.f), hot := S'.hot ++ [unmark (pgOf D.f p)] }) := by
          have := B'.out.tot
          have h2 : S'.cold.length = t.length + 1 := by rw [hcl]; simp
          exact ⟨B'.out.m1, B'.out.m2, B'.out.t1, B'.out.t2, by simp; omega⟩
        have RS : Hid (turnColdS S = ⟨coolS 0 { S' with cold := t.map (pgOf D.f), hot := S'.hot ++ [unmark (pgOf D.f p)] }, 0, false⟩) := by
          show _ = _
          rw [NE.out]
          unfold coldS
          rw [hcl]
          have u : (pgOf D.f p).mark = true := hm
          simp only [u, if_true]
        clear hr hw hn H1 R1 MV hl hcl hp hpb hpt hp2 hp3 o1 o2 sz hn1 hc hm T' M' E' NE
        go_wp2_with fail
        refine (MV'.out).mono ?_
        rintro e w1 ⟨rfl, k1, k2⟩
        have CO := Lib.hid (cool_calls D.a _ 0 F w1 B2.out (by omega) (by omega) k1)
        have K2 := Lib.hid (K'.out.trans k2)
        clear k1 k2
        go_wp2_with fail
        refine (CO.out).mono ?_
        rintro e w2 ⟨rfl, k1, k2⟩
        have H3 := Lib.hid k1
        have K3 := Lib.hid (K2.out.trans k2)
        clear k1 k2
        go_wp2_with fail
        go_ret2
        exact ⟨by rw [RS.out]; rfl, by rw [RS.out]; exact H3.out, K3.out⟩
      | false =>
        rw [hm] at p2
        have u : (pgOf D.f p).mark = false := hm
        have i1 : inL (outL D.L p) p 3 1 = t := by simp [inL, o1]
        have i2 : inL (outL D.L p) p 3 2 = D.L 2 := by simp [inL, o2 2 (by decide)]
        have i3 : inL (outL D.L p) p 3 3 = D.L 3 ++ [p] := by simp [inL, o2 3 (by decide)]
        have MV := Lib.hid (move_calls D F wr p 3 1 (.inr (.inr rfl)) (.inl rfl) hp (sz 3) hr.wf hw)
        have HR := Lib.hid hr
        have HP := Lib.hid hp
        have HPB := Lib.hid hpb
        have I1 := Lib.hid i1
        have I2 := Lib.hid i2
        have I3 := Lib.hid i3
        have CL := Lib.hid hcl
        have U := Lib.hid u
        clear hr hw hn hl hcl hp hpb hpt hp2 hp3 o1 o2 sz hn1 hc hm T' M' E' i1 i2 i3 u H'
        go_wp2_with fail
        refine (MV.out).mono ?_
        rintro e w1 ⟨rfl, f', k1, k2, k3, k4⟩
        have R2 := HR.out.moved HP.out (.inr (.inr rfl)) k1 k2
        rw [I1.out, I2.out, I3.out, HR.out.hot, List.map_append, HR.out.test] at R2
        have hd := raw_seen k3
        obtain ⟨al', b0, b1, b2, b3, bf⟩ := hd
        simp only at al' b0 b1 b2 b3 bf
        obtain ⟨r0', r1', rl'⟩ := ring_cells R2 k3 3 (.inr (.inr rfl))
        have lk0 := look_ring k3 3 (.inr (.inr rfl))
        have lk1 : ∀ n, (Instr.lookup 156 (.map (some D.R)) (.int .i64 3) false).run Try.prog (w1.drewN n) = .ok (.pointer (some ⟨D.rb 3, 0, none⟩)) (w1.drewN n) := fun n => look_ring (w := w1.drewN n) k3 3 (.inr (.inr rfl))
        simp only at lk0 r0' r1' rl'
        have hn := raw_nodes k3
        have p0' := nodes_cell hn HPB.out k1.nd 0
        have pl' := nodes_lt hn HPB.out k1.nd
        simp [Nd.cs, (k2 p).1] at p0'
        simp [listS] at r1'
        obtain ⟨m, hm⟩ : ∃ m, S'.test.length = m := ⟨_, rfl⟩
        rw [hm] at r1'
        have hmb : m ≤ 8500 := by have := B'.out.tot; omega
        obtain ⟨x, hx⟩ : ∃ x, D.most = x := ⟨_, rfl⟩
        rw [hx] at b0
        have hxs : x = S'.most := by rw [← hx]; exact HR.out.most
        have BX := B'.out
        have RS : Hid (turnColdS S = if x < ((m + 1 : Nat) : Int) then ⟨{ S' with cold := t.map (pgOf D.f), test := (S'.test ++ [pgOf D.f p]).tail, target := max 1 (S'.target - 1) }, (D.f p).id, true⟩ else ⟨{ S' with cold := t.map (pgOf D.f), test := S'.test ++ [pgOf D.f p] }, (D.f p).id, true⟩) := by
          show _ = _
          rw [NE.out]
          unfold coldS
          rw [CL.out]
          simp only [U.out, hxs, hm]
          rfl
        have K2 := Lib.hid (K'.out.trans k4)
        by_cases hg : x < (m : Int) + 1
        · have d0 : decide (x < (m : Int) + 1) = true := by simpa using hg
          have RS' : Hid (turnColdS S = ⟨{ S' with cold := t.map (pgOf D.f), test := (S'.test ++ [pgOf D.f p]).tail, target := max 1 (S'.target - 1) }, (D.f p).id, true⟩) := by
            show _ = _; rw [RS.out, if_pos (by simpa using hg)]
          obtain ⟨q, l3, hq⟩ : ∃ q l3, D.L 3 ++ [p] = q :: l3 := by
            cases h : D.L 3 with
            | nil => exact ⟨p, [], rfl⟩
            | cons q l => exact ⟨q, l ++ [p], rfl⟩
          have hq3 : inL (outL D.L p) p 3 3 = q :: l3 := by rw [I3.out, hq]
          have hqm : q ∈ inL (outL D.L p) p 3 3 := by rw [hq3]; simp
          simp [hq3, pt] at r0'
          obtain ⟨o1, o2⟩ := out_head k1 hq3
          have hqi : okK (f' q).id := R2.ids 3 q hqm
          have DR := Lib.hid (fun (wq : World) h => drop_calls { D with L := inL (outL D.L p) p 3, f := f' } F wq q 3 (.inr (.inr rfl)) hqm hqi k1 h)
          have R2H := Lib.hid R2
          have K3 := Lib.hid k3
          have KK2 := Lib.hid k2
          have QM := Lib.hid hqm
          have O1 := Lib.hid o1
          have O21 := Lib.hid (o2 1 (by decide))
          have O22 := Lib.hid (o2 2 (by decide))
          have HQ := Lib.hid hq
          have hEn := Lib.hid (mapA_nodup intK (raw_P k3))
          have tt1 := BX.t1
          have tt2 := BX.t2
          have tt3 := BX.m2
          have tD := Lib.hid HR.out.target
          clear k1 k2 k3 k4 R2 hn hq3 hqm hqi o1 o2 hm hx hxs BX hg hmb hq
          go_wp2_with fail
          go_quiet (fail)
          go_wp2_with fail
          refine (DR.out (w1.drewN _) K3.out).mono ?_
          rintro e w2 ⟨rfl, f4, j1, j2, j3, j4⟩
          have R4 := R2H.out.dropped hEn.out (j := 3) QM.out j1 j2
          simp only [O1.out, O21.out, O22.out] at R4
          have hd := raw_seen j3
          obtain ⟨al4, b04, b14, b24, b34, bf4⟩ := hd
          simp only at al4 b04 b14 b24 b34 bf4
          have hn := raw_nodes j3
          have p0'' := nodes_cell hn HPB.out j1.nd 0
          have pl'' := nodes_lt hn HPB.out j1.nd
          simp [Nd.cs, (j2 p).1, (KK2.out p).1] at p0''
          have HT : Hid (∀ tg, tg = max 1 (S'.target - 1) → Holds (w2.setCell ⟨D.a, 1, none⟩ (.int .i64 tg)) (ck D.a { S' with cold := t.map (pgOf D.f), test := (S'.test ++ [pgOf D.f p]).tail, target := max 1 (S'.target - 1) } * F)) := by
            rintro tg rfl
            have := raw_target j3 (max 1 (S'.target - 1))
            refine ck_shut (D := { D with L := outL (inL (outL D.L p) p 3) q, f := f4, E := delK D.E (f' q).id, target := max 1 (S'.target - 1) }) ?_ this
            have e1 : inL (outL D.L p) p 3 1 = t := I1.out
            have e2 : inL (outL D.L p) p 3 2 = D.L 2 := I2.out
            have ef : pgOf f' = pgOf D.f := funext fun b => by simp [pgOf, KK2.out b]
            have et : l3.map (pgOf D.f) = (S'.test ++ [pgOf D.f p]).tail := by
              have := congrArg (fun l => (l.map (pgOf D.f)).tail) HQ.out
              simp only [List.map_cons, List.tail_cons, List.map_append, List.map_nil] at this
              rw [← this, ← HR.out.test]
            refine ⟨R4.wf, R4.most, rfl, ?_, ?_, ?_, R4.pages, R4.ids⟩
            · rw [R4.cold, e1, ef]
            · rw [R4.hot, e2, ef]; exact HR.out.hot
            · rw [R4.test, ef]; exact et
          have K4 := Lib.hid (((K2.out.drewN _).trans j4))
          rw [tD.out] at b14
          obtain ⟨y, hy⟩ : ∃ y, S'.target = y := ⟨_, rfl⟩
          rw [hy] at b14 tt1 tt2
          have HT2 : Hid (∀ tg, tg = max 1 (y - 1) → Holds (w2.setCell ⟨D.a, 1, none⟩ (.int .i64 tg)) (ck D.a { S' with cold := t.map (pgOf D.f), test := (S'.test ++ [pgOf D.f p]).tail, target := max 1 (S'.target - 1) } * F)) := by
            intro tg h
            exact HT.out tg (by rw [hy]; exact h)
          clear j1 j2 j3 j4 R4 hn DR K3 HT hy
          have w1' : IntKind.i64.wrap (y - 1) = y - 1 := IntWalk.i64_in _ (by omega)
          go_wp2_with fail
          all_goals
            go_ret2
            refine ⟨by rw [RS'.out]; rfl, ?_, K4.out.setCell _ _⟩
            rw [RS'.out]
            exact HT2.out _ (by clear w1'; omega)
        · have d0 : decide (x < (m : Int) + 1) = false := by simpa using hg
          have RS' : Hid (turnColdS S = ⟨{ S' with cold := t.map (pgOf D.f), test := S'.test ++ [pgOf D.f p] }, (D.f p).id, true⟩) := by
            show _ = _; rw [RS.out, if_neg (by simpa using hg)]
          have CK : Hid (Holds w1 (ck D.a { S' with cold := t.map (pgOf D.f), test := S'.test ++ [pgOf D.f p] } * F)) := ck_shut (D := { D with L := inL (outL D.L p) p 3, f := f' }) R2 k3
          clear k1 k2 k3 k4 R2 hn hm hx hxs BX hg hmb
          go_wp2_with fail
          go_quiet (fail)
          go_wp2_with fail
          go_ret2
          exact ⟨by rw [RS'.out]; rfl, by rw [RS'.out]; exact CK.out, K2.out.drewN _⟩
#print axioms turnCold_calls
end Go.Proofs.Ytmaoboepmbioiaa.Clock
