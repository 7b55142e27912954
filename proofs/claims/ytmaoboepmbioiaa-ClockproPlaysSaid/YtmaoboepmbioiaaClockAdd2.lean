/-
  Layer 19: Add, whole.
-/
import Derived.Test.YtmaoboepmbioiaaClockAdd
namespace Go.Proofs.Ytmaoboepmbioiaa.Clock
open Go.RowKit Go.Sep
set_option maxRecDepth 100000
set_option linter.unusedVariables false
set_option linter.unusedSimpArgs false

def iEnc (x : Int) : List Value := [.int .i64 x]
theorem infoI : (Try.prog.info? 3).map (fun i => (i.zero, i.size, i.bytes)) = some (some (.int .i64 0), 1, 8) := by kernel_rfl
theorem ck_seen {w : World} {a : Nat} {S : CS} {F : Asr} (h : Holds w (ck a S * F)) : a < w.heap.size ∧ w.cell? ⟨a, 0, none⟩ = some (.int .i64 S.most) ∧ w.cell? ⟨a, 1, none⟩ = some (.int .i64 S.target) ∧ w.frozen? ⟨a, 1, none⟩ = false := by
  obtain ⟨D, hr, rfl, hw⟩ := ck_open h
  have hd := raw_seen hw
  exact ⟨hd.lt, by rw [hd.c0, hr.most], by rw [hd.c1, hr.target], hd.fz⟩
theorem ck_target {w : World} {a : Nat} {S : CS} {F : Asr} (h : Holds w (ck a S * F)) (t : Int) : Holds (w.setCell ⟨a, 1, none⟩ (.int .i64 t)) (ck a { S with target := t } * F) := by
  obtain ⟨D, hr, rfl, hw⟩ := ck_open h
  exact ck_shut (D := { D with target := t }) ⟨hr.wf, hr.most, rfl, hr.cold, hr.hot, hr.test, hr.pages, hr.ids⟩ (raw_target hw t)
def finalS (k id : Int) (T : CS) : CS := if k = 3 then coolS 1 { T with hot := T.hot ++ [⟨id, false⟩] } else { T with cold := T.cold ++ [⟨id, false⟩] }
def AddC (r : Added) (a : Nat) (F : Asr) (w : World) (e : Ending) (w' : World) : Prop :=
  ∃ v, e = .returned (.tuple #[v, .int .i64 r.e]) ∧ Holds w' (rowL 3 1 iEnc v r.l * (ck a r.S * F)) ∧ Sm w w'
theorem there_quiet (a : Nat) (S : CS) (F : Asr) (w : World) (hb : Bnd S) (hck : Holds w (ck a S * F)) : ∀ n,
    Calls Try.prog 85 #[.pointer (some ⟨a, 0, none⟩)] (w.drewN n) fun e w' => e = .returned (.int .i64 (thereS S : Nat)) ∧ ∃ n', w' = (w.drewN n).drewN n' := fun n => there_calls a S F (w.drewN n) hb hck

set_option maxHeartbeats 4000000 in
theorem add_calls (a : Nat) (S : CS) (F : Asr) (w : World) (id : Int) (hid : okK id) (hb : Bnd S) (htot : S.cold.length + S.hot.length + S.test.length ≤ 8400) (hck : Holds w (ck a S * F)) :
    Calls Try.prog 33 #[.pointer (some ⟨a, 0, none⟩), .int .i64 id] w (AddC (addS S id) a F w) := by
  have KD := Lib.hid (kind_calls a S F w id hid hck)
  have N0 := Lib.hid (none_calls a S F w hck)
  have HC := Lib.hid hck
  by_cases hk12 : kindS S id = 1 ∨ kindS S id = 2
  · have RES : Hid (addS S id = ⟨S, [], 13⟩) := by
      show _ = _
      unfold addS
      rw [if_pos]
      unfold kindS at hk12
      cases e1 : has S.cold id with
      | true => rfl
      | false =>
        cases e2 : has S.hot id with
        | true => rfl
        | false => simp [e1, e2] at hk12; split at hk12 <;> simp at hk12
    obtain ⟨k, hk⟩ : ∃ k, kindS S id = k := ⟨_, rfl⟩
    rw [hk] at KD hk12
    clear hck hk
    rcases hk12 with rfl | rfl
    all_goals
      go_enter Try.func33, Try.ntmps33
      go_wp2_with (first | (go_at_call 83; refine (N0.out).mono ?_; rintro e w' ⟨rfl, rfl⟩) | (go_at_call 41; refine (KD.out).mono ?_; rintro e w' ⟨rfl, rfl⟩))
      go_ret2
      exact ⟨_, by rw [RES.out]; rfl, by rw [RES.out]; exact rowL_nil HC.out, Sm.refl _⟩
  · have B0 := Lib.hid hb
    by_cases hk3 : kindS S id = 3
    · rw [hk3] at KD
      have hfacts : has S.cold id = false ∧ has S.hot id = false ∧ has S.test id = true := by
        unfold kindS at hk3
        cases e1 : has S.cold id with
        | true => simp [e1] at hk3
        | false =>
          cases e2 : has S.hot id with
          | true => simp [e1, e2] at hk3
          | false =>
            cases e3 : has S.test id with
            | false => simp [e1, e2, e3] at hk3
            | true => exact ⟨rfl, rfl, rfl⟩
      obtain ⟨g1, g2, g3⟩ := hfacts
      have RM : Hid (removeS S id = { S with test := outOf S.test id }) := by show _ = _; unfold removeS; rw [outOf_no g1, outOf_no g2]
      obtain ⟨T, hT⟩ : ∃ T, T = ({ S with test := outOf S.test id, target := min S.most (S.target + 1) } : CS) := ⟨_, rfl⟩
      have hol : (outOf S.test id).length ≤ S.test.length := List.length_filter_le _ _
      have B0 : Hid (Bnd T) := by
        show Bnd _
        rw [hT]
        have h1 := hb.t1
        have h2 := hb.t2
        have h3 := hb.m1
        exact ⟨hb.m1, hb.m2, by simp only; omega, by simp only; omega, by simp only; omega⟩
      have NO : Hid (NoId T id) := by
        show NoId _ _
        rw [hT]
        exact ⟨g1, g2, by simp [has, outOf]⟩
      have T0 : Hid (T.cold.length + T.hot.length + T.test.length ≤ 8400) := by show _ ≤ _; rw [hT]; simp only; omega
      have RES : Hid (addS S id = ⟨finalS 3 id (roomL T []).S, (roomL T []).l, 0⟩) := by
        show _ = _
        unfold addS
        rw [g1, g2, g3, hT]; rfl
      have HT := Lib.hid hT
      obtain ⟨D, hr, ha, hw⟩ := ck_open hck
      subst ha
      have hd := raw_seen hw
      obtain ⟨al0, -, -, -, a30, -⟩ := hd
      rcases hr.kind id (mapA_nodup intK (raw_P hw)) with ⟨-, e2, -⟩ | ⟨b, k, hk, e1, hb', hbi, e2, e3, e4⟩
      · rw [e2] at hk3; exact absurd hk3 (by decide)
      have lk := mapA_look false intK Try.underlying157 (z := .pointer none) (fun w => by kernel_rfl) (raw_P hw) id hid
      simp [e1, pa, iK] at lk
      have DP := Lib.hid (drop_page hr hw hk hb' hbi)
      have tb1 := hb.t1
      have tb2 := hb.t2
      have tb3 := hb.m2
      obtain ⟨a, ha⟩ : ∃ a, D.a = a := ⟨_, rfl⟩
      rw [ha] at KD N0 HC al0 a30 DP ⊢
      clear hr hw hk hb' hbi e1 e2 e3 e4 hck hk12 hk3 hb g1 g2 g3 htot hT hol ha
      go_enter Try.func33, Try.ntmps33
      go_wp2_with (first | (go_at_call 83; refine (N0.out).mono ?_; rintro e w' ⟨rfl, rfl⟩) | (go_at_call 41; refine (KD.out).mono ?_; rintro e w' ⟨rfl, rfl⟩))
      refine (DP.out).mono ?_
      rintro e w1 ⟨rfl, k1, k2⟩
      rw [RM.out] at k1
      obtain ⟨al1, a01, a11, af1⟩ := ck_seen k1
      simp only at a01 a11
      have HT1 : Hid (∀ tg, tg = min S.most (S.target + 1) → Holds (w1.setCell ⟨a, 1, none⟩ (.int .i64 tg)) (ck a T * F)) := by
        rintro tg rfl
        rw [HT.out]
        exact ck_target k1 _
      have K1 := Lib.hid k2
      obtain ⟨x, hx⟩ : ∃ x, S.most = x := ⟨_, rfl⟩
      obtain ⟨y, hy⟩ : ∃ y, S.target = y := ⟨_, rfl⟩
      rw [hx] at a01 tb2 tb3
      rw [hy] at a11 tb1 tb2
      rw [hx, hy] at HT1
      have bw : IntKind.i64.wrap (y + 1) = y + 1 := IntWalk.i64_in _ (by omega)
      clear k1 k2 DP hx hy
      go_wp2_with fail
      go_region
      have HC0 : Hid (Holds ((w1.setCell ⟨a, 1, none⟩ (.int .i64 (if y + 1 < x then y + 1 else x))).drew) (ck a T * F)) := HT1.out _ (by clear bw; split <;> omega)
      have K0 := Lib.hid ((K1.out.setCell ⟨a, 1, none⟩ (.int .i64 (if y + 1 < x then y + 1 else x))).drew)
      clear HT1 K1 bw
      generalize (if y + 1 < x then y + 1 else x) = tgt at *
      generalize (w1.setCell ⟨a, 1, none⟩ (.int .i64 tgt)).drew = w0 at *
      clear a01 a11 af1 al1 HT RM lk a30 al0 KD N0 HC
      go_wp2_with fail
      go_loopg [7] (thereS T) (fun k v wr => ∃ (S' : CS) (l' : List Int), Hid (Bnd S') ∧ Hid (NoId S' id) ∧ Hid (thereS S' ≤ k) ∧ Hid (l'.length + thereS S' ≤ 8500) ∧ Hid (S'.cold.length + S'.hot.length + S'.test.length ≤ 8400) ∧ Hid (roomL S' l' = roomL T []) ∧ Hid (Holds wr (rowL 3 1 iEnc v l' * (ck a S' * F))) ∧ Hid (Sm w wr))
      case atStart => exact ⟨T, [], B0.out, NO.out, Nat.le_refl _, by show _ ≤ _; have := T0.out; unfold thereS; simp; omega, T0.out, rfl, rowL_nil HC0.out, K0.out⟩
      case round =>
        clear HC0 K0 B0 NO T0
        obtain ⟨S', l', B', NO', M', LB', TT', E', H', K'⟩ := hrel
        have hck := H'.out.eqv (star_left_comm _ _ _)
        obtain ⟨al, a0, -, -⟩ := ck_seen hck
        have TQ := Lib.hid (there_quiet a S' _ wr B'.out hck)
        by_cases h0 : S'.most ≤ (thereS S' : Int)
        · have EV := Lib.hid (fun (G : Asr) (wq : World) h => evict_calls a S' G wq B'.out h)
          have EK := Lib.hid (evict_ok S')
          have NE : Hid (roomL (evictS S').S (l' ++ [(evictS S').id]) = roomL T []) := by show _ = _; rw [← room_step h0 B'.out.m1]; exact E'.out
          have NN : Hid (NoId (evictS S').S id) := NoId.evict _ S' (Nat.le_refl _) NO'.out
          have NB : Hid (Bnd (evictS S').S) := EK.out.bnd B'.out
          have NT : Hid (thereS (evictS S').S + 1 = thereS S') := by
            show _ = _
            have := EK.out.there
            have := B'.out.m1
            omega
          have NTT : Hid ((evictS S').S.cold.length + (evictS S').S.hot.length + (evictS S').S.test.length ≤ 8400) := Nat.le_trans EK.out.tot TT'.out
          have d0 : decide (S'.most ≤ (thereS S' : Int)) = true := by simpa using h0
          obtain ⟨r, hr⟩ : ∃ r, evictS S' = r := ⟨_, rfl⟩
          rw [hr] at EV NE NN NB NT NTT
          obtain ⟨rS, rid, rok⟩ := r
          have CK := Lib.hid hck
          clear hr h0 E' EK NO' hck
          go_wp2_with fail
          go_quiet ((go_at_call 85; exact Calls.quiet_of (TQ.out _)))
          go_wp2_with fail
          refine (EV.out _ (wr.drewN _) CK.out).mono ?_
          rintro e w1 ⟨rfl, k1, k2⟩
          have hrow := k1.eqv (star_left_comm _ _ _)
          obtain ⟨ao, cap, hv, hcap⟩ := rowA_slice hrow
          obtain ⟨n, hn⟩ : ∃ n, l'.length = n := ⟨_, rfl⟩
          rw [hn] at hv hcap
          subst hv
          have HR := Lib.hid hrow
          have K1 := Lib.hid ((K'.out.drewN _).trans k2)
          have HL : Hid (l'.length + 1 ≤ maxLen) := by show _ ≤ _; have := LB'.out; unfold maxLen; omega
          have HL2 : Hid ((l'.length + 1) * 8 ≤ 140737488355328) := by show _ ≤ _; have := LB'.out; omega
          have NL : Hid ((l' ++ [rid]).length + thereS rS ≤ 8500) := by show _ ≤ _; have h1 := LB'.out; have h2 := NT.out; simp only [List.length_append, List.length_cons, List.length_nil]; omega
          have NM : Hid (thereS rS ≤ gk - 1 ∧ gk - 1 < gk) := by show _ ∧ _; have h1 := M'.out; have h2 := NT.out; omega
          have HA := Lib.hid ((HR.out.alloc (.cells #[.int .i64 rid] 3)).right)
          clear k1 k2 hrow hcap H' K' CK EV LB' M' d0 a0 al hn HR
          go_wp2_with (at_builtin; refine wpList_append_one (enc := iEnc) rfl _ _ 48 rfl 3 (.int .i64 0) 1 8 Try.underlying48 infoI rfl rid rfl HA.out ⟨w1.heap.size, 0, none⟩ 1 rfl rfl (cells_new w1 #[.int .i64 rid] 3 _ rfl) (by simp [iEnc, Value.oneCell']) HL.out HL2.out ?_)
          intro v' w2 h2 s2
          have H2 := Lib.hid h2
          have K2 := Lib.hid ((K1.out.alloc _).trans s2)
          clear h2 s2 HA K1
          go_wp2_with fail
          go_roundg (gk - 1)
          case measure => exact NM.out.2
          case rel => exact ⟨rS, l' ++ [rid], NB.out, NN.out, NM.out.1, NL.out, NTT.out, NE.out, H2.out, K2.out⟩
        · have d0 : decide (S'.most ≤ (thereS S' : Int)) = false := by simpa using h0
          have RES2 : Hid (addS S id = ⟨finalS 3 id S', l', 0⟩) := by show _ = _; rw [RES.out, ← E'.out, room_stop h0]
          have BX := Lib.hid B'.out
          have OKI := Lib.hid hid
          obtain ⟨D, hr, ha, hw⟩ := ck_open hck
          subst ha
          have hd := raw_seen hw
          obtain ⟨al', -, -, -, a3, -⟩ := hd
          obtain ⟨f1, f2, f3⟩ := fresh_raw hr.wf hw id
          have a3' : ∀ n, ((wr.drewN n).alloc (.cells #[.int .i64 id, .int .i64 0, .bool false, .pointer none, .pointer none] 162)).cell? ⟨D.a, 3, none⟩ = some (.map (some D.P)) := fun n => (raw_seen f1).c3
          have hEn := mapA_nodup intK (raw_P hw)
          have HP : Hid (∀ n, Holds ((wr.drewN n).alloc (.cells #[.int .i64 id, .int .i64 0, .bool false, .pointer none, .pointer none] 162)) _) := fun n => raw_P f1
          have HR := Lib.hid hr
          have F2 := Lib.hid f2
          have F3 := Lib.hid f3
          have HE := Lib.hid hEn
          have sz : Hid ((D.L 2).length < 9000) := by
            show _ < _
            have := congrArg List.length (hr.list 2)
            simp only [List.length_map] at this
            rw [this]
            have := TT'.out
            show (S'.hot).length < 9000
            omega
          clear hr hw f1 f2 f3 hEn hck H' E' M' LB' h0 RES hid
          go_wp2_with fail
          go_quiet ((go_at_call 85; exact Calls.quiet_of (TQ.out _)))
          go_wp2_with (refine wpList_update_sep rfl _ _ _ rfl intK Try.underlying157 (HP.out _) id OKI.out wr.heap.size rfl rfl rfl ?_)
          intro w3 h3 s3
          have h4 := raw_P' (D := freshD D wr.heap.size id) h3
          have MP := Lib.hid (move0_calls { freshD D wr.heap.size id with E := putK D.E id wr.heap.size } _ w3 wr.heap.size 2 (.inr (.inl rfl)) (by simp [freshD]) F3.out (by simp [freshD, up, nd0]) sz.out F2.out h4)
          have K3 := Lib.hid (((K'.out.drewN _).alloc _).trans s3)
          clear h3 s3 h4 HP TQ
          go_wp2_with fail
          refine (MP.out).mono ?_
          rintro e w4 ⟨rfl, f', j1, j2, j3, j4⟩
          have R := HR.out.added HE.out F3.out NO'.out OKI.out j1 j2
          have C4 := ck_shut R j3
          have K4 := Lib.hid (K3.out.trans j4)
          have CF : Hid (Holds w4 (ck D.a { S' with hot := S'.hot ++ [⟨id, false⟩] } * (rowL 3 1 iEnc u7 l' * F))) := by
            show Holds _ _
            have e : ({ S' with hot := S'.hot ++ [⟨id, false⟩] } : CS) = { S' with cold := S'.cold ++ (if (2 : Int) = 1 then [⟨id, false⟩] else []), hot := S'.hot ++ (if (2 : Int) = 2 then [⟨id, false⟩] else []), test := S'.test ++ (if (2 : Int) = 3 then [⟨id, false⟩] else []) } := by
              simp
            rw [e]; exact C4
          have B4 : Hid (Bnd { S' with hot := S'.hot ++ [⟨id, false⟩] }) := by
            show Bnd _
            have := TT'.out
            exact ⟨BX.out.m1, BX.out.m2, BX.out.t1, BX.out.t2, by simp; omega⟩
          have CO := Lib.hid (cool_calls D.a { S' with hot := S'.hot ++ [⟨id, false⟩] } 1 _ w4 B4.out (by omega) (by omega) CF.out)
          clear R C4 j1 j2 j3 j4 MP K3 CF
          go_wp2_with fail
          refine (CO.out).mono ?_
          rintro e w5 ⟨rfl, k1, k2⟩
          have H5 : Hid (Holds w5 (ck D.a (finalS 3 id S') * (rowL 3 1 iEnc u7 l' * F))) := k1
          have K5 := Lib.hid (K4.out.trans k2)
          clear k1 k2 CO
          go_wp2_with fail
          go_ret2
          rw [RES2.out]
          exact ⟨_, rfl, H5.out.eqv (star_left_comm _ _ _), K5.out⟩
    · have hk0 : kindS S id = 0 := by
        unfold kindS at hk12 hk3 ⊢
        repeat' split at hk12
        all_goals simp_all
      have NO : Hid (NoId S id) := by
        unfold kindS at hk0
        cases e1 : has S.cold id with
        | true => simp [e1] at hk0
        | false =>
          cases e2 : has S.hot id with
          | true => simp [e1, e2] at hk0
          | false =>
            cases e3 : has S.test id with
            | true => simp [e1, e2, e3] at hk0
            | false => exact ⟨e1, e2, e3⟩
      have RES : Hid (addS S id = ⟨finalS 0 id (roomL S []).S, (roomL S []).l, 0⟩) := by
        show _ = _
        unfold addS
        rw [NO.out.c, NO.out.h, NO.out.t]; rfl
      rw [hk0] at KD
      have HC0 := Lib.hid HC.out
      have K0 : Hid (Sm w w) := Sm.refl w
      have T0 := Lib.hid htot
      clear hck hk12 hk3 hk0 hb HC htot
      go_enter Try.func33, Try.ntmps33
      go_wp2_with (first | (go_at_call 83; refine (N0.out).mono ?_; rintro e w' ⟨rfl, rfl⟩) | (go_at_call 41; refine (KD.out).mono ?_; rintro e w' ⟨rfl, rfl⟩))
      go_loopg [7] (thereS S) (fun k v wr => ∃ (S' : CS) (l' : List Int), Hid (Bnd S') ∧ Hid (NoId S' id) ∧ Hid (thereS S' ≤ k) ∧ Hid (l'.length + thereS S' ≤ 8500) ∧ Hid (S'.cold.length + S'.hot.length + S'.test.length ≤ 8400) ∧ Hid (roomL S' l' = roomL S []) ∧ Hid (Holds wr (rowL 3 1 iEnc v l' * (ck a S' * F))) ∧ Hid (Sm w wr))
      case atStart => exact ⟨S, [], B0.out, NO.out, Nat.le_refl _, by show _ ≤ _; have := T0.out; unfold thereS; simp; omega, T0.out, rfl, rowL_nil HC0.out, K0.out⟩
      case round =>
        clear HC0 K0 B0 NO T0
        obtain ⟨S', l', B', NO', M', LB', TT', E', H', K'⟩ := hrel
        have hck := H'.out.eqv (star_left_comm _ _ _)
        obtain ⟨al, a0, -, -⟩ := ck_seen hck
        have TQ := Lib.hid (there_quiet a S' _ wr B'.out hck)
        by_cases h0 : S'.most ≤ (thereS S' : Int)
        · have EV := Lib.hid (fun (G : Asr) (wq : World) h => evict_calls a S' G wq B'.out h)
          have EK := Lib.hid (evict_ok S')
          have NE : Hid (roomL (evictS S').S (l' ++ [(evictS S').id]) = roomL S []) := by show _ = _; rw [← room_step h0 B'.out.m1]; exact E'.out
          have NN : Hid (NoId (evictS S').S id) := NoId.evict _ S' (Nat.le_refl _) NO'.out
          have NB : Hid (Bnd (evictS S').S) := EK.out.bnd B'.out
          have NT : Hid (thereS (evictS S').S + 1 = thereS S') := by
            show _ = _
            have := EK.out.there
            have := B'.out.m1
            omega
          have NTT : Hid ((evictS S').S.cold.length + (evictS S').S.hot.length + (evictS S').S.test.length ≤ 8400) := Nat.le_trans EK.out.tot TT'.out
          have d0 : decide (S'.most ≤ (thereS S' : Int)) = true := by simpa using h0
          obtain ⟨r, hr⟩ : ∃ r, evictS S' = r := ⟨_, rfl⟩
          rw [hr] at EV NE NN NB NT NTT
          obtain ⟨rS, rid, rok⟩ := r
          have CK := Lib.hid hck
          clear hr h0 E' EK NO' hck
          go_wp2_with fail
          go_quiet ((go_at_call 85; exact Calls.quiet_of (TQ.out _)))
          go_wp2_with fail
          refine (EV.out _ (wr.drewN _) CK.out).mono ?_
          rintro e w1 ⟨rfl, k1, k2⟩
          have hrow := k1.eqv (star_left_comm _ _ _)
          obtain ⟨ao, cap, hv, hcap⟩ := rowA_slice hrow
          obtain ⟨n, hn⟩ : ∃ n, l'.length = n := ⟨_, rfl⟩
          rw [hn] at hv hcap
          subst hv
          have HR := Lib.hid hrow
          have K1 := Lib.hid ((K'.out.drewN _).trans k2)
          have HL : Hid (l'.length + 1 ≤ maxLen) := by show _ ≤ _; have := LB'.out; unfold maxLen; omega
          have HL2 : Hid ((l'.length + 1) * 8 ≤ 140737488355328) := by show _ ≤ _; have := LB'.out; omega
          have NL : Hid ((l' ++ [rid]).length + thereS rS ≤ 8500) := by show _ ≤ _; have h1 := LB'.out; have h2 := NT.out; simp only [List.length_append, List.length_cons, List.length_nil]; omega
          have NM : Hid (thereS rS ≤ gk - 1 ∧ gk - 1 < gk) := by show _ ∧ _; have h1 := M'.out; have h2 := NT.out; omega
          have HA := Lib.hid ((HR.out.alloc (.cells #[.int .i64 rid] 3)).right)
          clear k1 k2 hrow hcap H' K' CK EV LB' M' d0 a0 al hn HR
          go_wp2_with (at_builtin; refine wpList_append_one (enc := iEnc) rfl _ _ 48 rfl 3 (.int .i64 0) 1 8 Try.underlying48 infoI rfl rid rfl HA.out ⟨w1.heap.size, 0, none⟩ 1 rfl rfl (cells_new w1 #[.int .i64 rid] 3 _ rfl) (by simp [iEnc, Value.oneCell']) HL.out HL2.out ?_)
          intro v' w2 h2 s2
          have H2 := Lib.hid h2
          have K2 := Lib.hid ((K1.out.alloc _).trans s2)
          clear h2 s2 HA K1
          go_wp2_with fail
          go_roundg (gk - 1)
          case measure => exact NM.out.2
          case rel => exact ⟨rS, l' ++ [rid], NB.out, NN.out, NM.out.1, NL.out, NTT.out, NE.out, H2.out, K2.out⟩
        · have d0 : decide (S'.most ≤ (thereS S' : Int)) = false := by simpa using h0
          have RES2 : Hid (addS S id = ⟨finalS 0 id S', l', 0⟩) := by show _ = _; rw [RES.out, ← E'.out, room_stop h0]
          have BX := Lib.hid B'.out
          have OKI := Lib.hid hid
          obtain ⟨D, hr, ha, hw⟩ := ck_open hck
          subst ha
          have hd := raw_seen hw
          obtain ⟨al', -, -, -, a3, -⟩ := hd
          obtain ⟨f1, f2, f3⟩ := fresh_raw hr.wf hw id
          have a3' : ∀ n, ((wr.drewN n).alloc (.cells #[.int .i64 id, .int .i64 0, .bool false, .pointer none, .pointer none] 162)).cell? ⟨D.a, 3, none⟩ = some (.map (some D.P)) := fun n => (raw_seen f1).c3
          have hEn := mapA_nodup intK (raw_P hw)
          have HP : Hid (∀ n, Holds ((wr.drewN n).alloc (.cells #[.int .i64 id, .int .i64 0, .bool false, .pointer none, .pointer none] 162)) _) := fun n => raw_P f1
          have HR := Lib.hid hr
          have F2 := Lib.hid f2
          have F3 := Lib.hid f3
          have HE := Lib.hid hEn
          have sz : Hid ((D.L 1).length < 9000) := by
            show _ < _
            have := congrArg List.length (hr.list 1)
            simp only [List.length_map] at this
            rw [this]
            have := TT'.out
            show (S'.cold).length < 9000
            omega
          clear hr hw f1 f2 f3 hEn hck H' E' M' LB' h0 RES hid
          go_wp2_with fail
          go_quiet ((go_at_call 85; exact Calls.quiet_of (TQ.out _)))
          go_wp2_with (refine wpList_update_sep rfl _ _ _ rfl intK Try.underlying157 (HP.out _) id OKI.out wr.heap.size rfl rfl rfl ?_)
          intro w3 h3 s3
          have h4 := raw_P' (D := freshD D wr.heap.size id) h3
          have MP := Lib.hid (move0_calls { freshD D wr.heap.size id with E := putK D.E id wr.heap.size } _ w3 wr.heap.size 1 (.inl rfl) (by simp [freshD]) F3.out (by simp [freshD, up, nd0]) sz.out F2.out h4)
          have K3 := Lib.hid (((K'.out.drewN _).alloc _).trans s3)
          clear h3 s3 h4 HP TQ
          go_wp2_with fail
          refine (MP.out).mono ?_
          rintro e w4 ⟨rfl, f', j1, j2, j3, j4⟩
          have R := HR.out.added HE.out F3.out NO'.out OKI.out j1 j2
          have C4 := ck_shut R j3
          have K4 := Lib.hid (K3.out.trans j4)
          have CF : Hid (Holds w4 (ck D.a (finalS 0 id S') * (rowL 3 1 iEnc u7 l' * F))) := by
            show Holds _ _
            have e : finalS 0 id S' = { S' with cold := S'.cold ++ (if (1 : Int) = 1 then [⟨id, false⟩] else []), hot := S'.hot ++ (if (1 : Int) = 2 then [⟨id, false⟩] else []), test := S'.test ++ (if (1 : Int) = 3 then [⟨id, false⟩] else []) } := by
              simp [finalS]
            rw [e]; exact C4
          clear R C4 j1 j2 j3 j4 MP K3
          go_wp2_with fail
          go_ret2
          rw [RES2.out]
          exact ⟨_, rfl, CF.out.eqv (star_left_comm _ _ _), K4.out⟩
end Go.Proofs.Ytmaoboepmbioiaa.Clock
