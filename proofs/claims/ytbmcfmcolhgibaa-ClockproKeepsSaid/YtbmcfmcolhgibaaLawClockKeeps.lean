/-
  ClockproKeeps, the walk.
-/
import Derived.Test.YtbmcfmcolhgibaaClockLeave
import Derived.Test.YtbmcfmcolhgibaaActs2
import Derived.Deep.DeepCutAuto
import Derived.Deep.CutBlock
namespace Go.Proofs.Ytbmcfmcolhgibaa.Clock
open Go.RowKit Go.Sep
set_option maxRecDepth 100000
set_option linter.unusedVariables false
set_option linter.unusedSimpArgs false

structure Inv (S : CS) (M : Nat) (In : List Int) : Prop where
  g : Good S
  m : S.most = M
  p : In.Perm (hereIds S)
  n : (hereIds S).Nodup
  ok : ∀ i ∈ In, okK i
theorem Inv.len {S : CS} {M : Nat} {In : List Int} (h : Inv S M In) : In.length = thereS S := by rw [h.p.length_eq, here_len]
theorem Inv.here {S : CS} {M : Nat} {In : List Int} (h : Inv S M In) {i : Int} (hi : i ∈ In) : kindS S i = 1 ∨ kindS S i = 2 := by
  have := (mem_here S i).1 ((h.p.mem_iff).1 hi)
  unfold kindS
  cases e1 : has S.cold i with
  | true => simp
  | false =>
    rw [e1] at this
    cases e2 : has S.hot i with
    | true => simp
    | false => rw [e2] at this; simp at this
theorem Inv.touch {S : CS} {M : Nat} {In : List Int} (h : Inv S M In) (id : Int) : Inv (touchS S id) M In :=
  ⟨good_touch h.g id, h.m, by rw [here_touch]; exact h.p, by rw [here_touch]; exact h.n, h.ok⟩
theorem Inv.evict {S : CS} {M : Nat} {In : List Int} (h : Inv S M In) : ((evictS S).ok = true ∧ 0 < In.length ∧ (evictS S).id ∈ In ∧ Inv (evictS S).S M (In.erase (evictS S).id)) ∨ ((evictS S).ok = false ∧ In.length = 0 ∧ Inv (evictS S).S M In) := by
  have E := evict_ok S
  have P := here_evict _ S (Nat.le_refl _)
  have hg := good_evict h.g
  have hl := h.len
  cases hok : (evictS S).ok with
  | true =>
    left
    rw [show went (evictS S) = [(evictS S).id] by simp [went, hok]] at P
    have P2 : In.Perm ((evictS S).id :: hereIds (evictS S).S) := h.p.trans P
    have h0 : 0 < thereS S := by have := E.ok; rw [hok] at this; simpa using this.symm
    refine ⟨rfl, by omega, (P2.mem_iff).2 (by simp), hg, E.most.trans h.m, ?_, ?_, fun i hi => h.ok i (List.mem_of_mem_erase hi)⟩
    · have := P2.erase (evictS S).id
      rwa [List.erase_cons_head] at this
    · have := (P.nodup_iff).1 h.n
      exact (List.nodup_cons.1 this).2
  | false =>
    right
    rw [show went (evictS S) = [] by simp [went, hok], List.nil_append] at P
    have h0 : ¬ 0 < thereS S := by have := E.ok; rw [hok] at this; simpa using this.symm
    exact ⟨rfl, by omega, hg, E.most.trans h.m, h.p.trans P, (P.nodup_iff).1 h.n, h.ok⟩
theorem Inv.remove {S : CS} {M : Nat} {In : List Int} (h : Inv S M In) (id : Int) : Inv (removeS S id) M (In.erase id) := by
  refine ⟨good_remove h.g id, h.m, ?_, ?_, fun i hi => h.ok i (List.mem_of_mem_erase hi)⟩
  · rw [here_remove, ← erase_filter h.n]; exact h.p.erase id
  · rw [here_remove]; exact h.n.filter _
theorem Inv.kind {S : CS} {M : Nat} {In : List Int} (h : Inv S M In) (id : Int) : decide (id ∈ In) = isHere (kindS S id) := by
  have : id ∈ In ↔ has S.cold id = true ∨ has S.hot id = true := by rw [h.p.mem_iff, mem_here]
  have e : decide (id ∈ In) = (has S.cold id || has S.hot id) := by
    rw [Bool.eq_iff_iff]; simp [this]
  rw [e]
  unfold kindS
  cases has S.cold id <;> cases has S.hot id <;> cases has S.test id <;> rfl
theorem add_most {S : CS} (h : Good S) (id : Int) : (addS S id).S.most = S.most := by
  unfold addS
  split
  · rfl
  · split
    · have hg : Good { S with test := outOf S.test id, target := min S.most (S.target + 1) } := by
        have h1 := h.t1
        have h2 := h.t2
        have h3 := h.m1
        refine ⟨h.m1, h.m2, by simp only; omega, by simp only; omega, h.there, ?_⟩
        have := List.length_filter_le (fun p : Pg => p.id != id) S.test
        have := h.test
        simp only [outOf]; omega
      simp only
      rw [(cool_keeps 1 (by omega) _ _ (Nat.le_refl _)).1]
      exact (room_keeps _ { S with test := outOf S.test id, target := min S.most (S.target + 1) } [] hg.bnd (Nat.le_refl _)).most
    · exact (room_keeps _ S [] h.bnd (Nat.le_refl _)).most
theorem kind_range (S : CS) (id : Int) : kindS S id = 0 ∨ kindS S id = 1 ∨ kindS S id = 2 ∨ kindS S id = 3 := by
  unfold kindS; repeat' split
  all_goals simp
def keepA (bx : Nat) (v : Value) (In : List Int) (a : Nat) (S : CS) (w : World) : Asr := boxA bx v * (intsA v In * (ck a S * all w))
theorem count_q (a : Nat) (S : CS) (F : Asr) (w : World) (k : Int) (hk : okK k) (hck : Holds w (ck a S * F)) (n : Nat) :
    Calls Try.prog 42 #[.pointer (some ⟨a, 0, none⟩), .int .i64 k] (w.drewN n) fun e w' => e = .returned (.int .i64 ((listS S k).length : Nat)) ∧ w' = w.drewN n :=
  (count_calls a S F (w.drewN n) k hk hck).mono fun _ _ ⟨h, e⟩ => ⟨h, e.symm⟩
theorem target_q (a : Nat) (S : CS) (F : Asr) (w : World) (hck : Holds w (ck a S * F)) (n : Nat) :
    Calls Try.prog 28 #[.pointer (some ⟨a, 0, none⟩)] (w.drewN n) fun e w' => e = .returned (.int .i64 S.target) ∧ w' = w.drewN n :=
  (target_calls a S F (w.drewN n) hck).mono fun _ _ ⟨h, e⟩ => ⟨h, e.symm⟩

set_option maxHeartbeats 2000000 in
theorem keeps_walk (most : Int) (ao : Option Addr) (len cap : Nat) (zs : List (Int × Int)) (w : World) (hacts : IsActs2 w ao len cap zs) :
    Calls Try.prog 13 #[.int .i64 most, .slice ao len cap] w fun e w' => e = .returned (.bool true) ∧ Below w.heap.size w w' := by
  obtain ⟨m0, hm0, hm8, -⟩ := and_lo 4 (by decide) most
  simp at hm0 hm8
  obtain ⟨M, hM⟩ : ∃ M, M = m0 + 1 := ⟨_, rfl⟩
  have hM1 : (1 : Int) + (m0 : Int) = (M : Int) := by omega
  have M0 : (0 : Int) ≤ (m0 : Int) := by omega
  have M1 : (m0 : Int) < 16 := by omega
  have M2 : M ≤ 16 := by omega
  have M3 : 1 ≤ M := by omega
  have ACTS := Lib.hid hacts
  have NW := Lib.hid (new_calls (M : Int) (all w) w (by omega) (by omega) (holds_all w))
  have G0 := Lib.hid (good_new (m := (M : Int)) (by omega) (by omega))
  clear hm8 hM hacts
  go_enter Try.func13, Try.ntmps13
  go_wp2_with fail
  refine (NW.out).mono ?_
  rintro e w1 ⟨a, rfl, h1, s1⟩
  have H2 : Hid (Holds (w1.alloc (.cells #[.slice none 0 0] 28)) (keepA w1.heap.size (.slice none 0 0) [] a (newS M) w)) := by
    show Holds _ _
    exact (rowL_nil (h1.alloc (.cells #[.slice none 0 0] 28))).eqv (by unfold keepA intsA boxA; ac_rfl)
  have S2 := Lib.hid (s1.alloc (.cells #[.slice none 0 0] 28))
  have I0 : Hid (Inv (newS M) M []) := ⟨G0.out, rfl, by simp [hereIds, newS], by simp [hereIds, newS], by simp⟩
  obtain ⟨bx, hbx⟩ : ∃ bx, w1.heap.size = bx := ⟨_, rfl⟩
  rw [hbx] at H2
  have HBX := Lib.hid hbx
  clear h1 s1 NW G0 hbx
  go_wp2_with fail
  rw [HBX.out]
  go_loopw [9] (fun x wr => ∃ (k : Nat) (S : CS) (v : Value) (In : List Int), k ≤ len ∧ k ≤ 200 ∧ x = .int .i64 k ∧ Hid (Inv S M In) ∧ Hid (Holds wr (keepA bx v In a S w)) ∧ Hid (Sm w wr)) (fun x _ => len - (intOf x).toNat)
  case atStart => exact ⟨0, newS M, _, [], Nat.zero_le _, by omega, rfl, I0.out, H2.out, S2.out⟩
  case round =>
    clear H2 S2 I0
    obtain ⟨k, S, v, In, hk, hk2, rfl, I, HH, HS⟩ := hrel
    by_cases hkl : k < len ∧ k < 200
    · obtain ⟨hka, hkb⟩ := hkl
      obtain ⟨ob, oo, rfl, hlc, hzl, hob, hcell, hwf⟩ := acts2_at ACTS.out (by omega)
      have hbel := Holds.below (HH.out.eqv (by unfold keepA; ac_rfl : _ = (boxA bx v * (intsA v In * ck a S)) * all w)) HS.out
      obtain ⟨c0, c1⟩ := hcell k (by omega)
      have d0 := (hbel.cell (p := ⟨ob, oo + k * 2, none⟩) hob).trans c0
      have d1 := (hbel.cell (p := ⟨ob, oo + k * 2 + 1, none⟩) hob).trans c1
      obtain ⟨hw0, hw1⟩ := hwf k (by omega)
      obtain ⟨kd, hkd⟩ : ∃ z, (zs[k]'(by omega)).1 = z := ⟨_, rfl⟩
      obtain ⟨pg, hpg⟩ : ∃ z, (zs[k]'(by omega)).2 = z := ⟨_, rfl⟩
      rw [hkd] at d0
      rw [hpg] at d1 hw1
      have OK : Hid (okK pg) := hw1
      have k0 : (0 : Int) ≤ (k : Int) := by omega
      have k1 : (k : Int) < (len : Int) := by omega
      have q2 : decide ((k : Int) < 200) = true := by simp; omega
      have q3 : decide (k < 200) = true := by simp; omega
      have ob' : ob < wr.heap.size := Nat.lt_of_lt_of_le hob HS.out.size
      have HA := Lib.hid (HH.out.alloc (.cells #[.int .i64 kd, .int .i64 pg] 90))
      clear hbel c0 c1 hcell hwf hw0 hw1 hkd hpg hzl hob
      go_upto_block 2 with (fail)
      obtain ⟨A0, hA0⟩ : ∃ q, wr.heap.size = q := ⟨_, rfl⟩
      rw [hA0] at HA ⊢
      clear hA0
      have HS0 := Lib.hid (HS.out.alloc (.cells #[.int .i64 kd, .int .i64 pg] 90))
      obtain ⟨W0, hW0⟩ : ∃ q, wr.alloc (.cells #[.int .i64 kd, .int .i64 pg] 90) = q := ⟨_, rfl⟩
      rw [hW0] at HA HS0 ⊢
      clear hW0
      have za := HA.out.cell 0
      have zb := HA.out.cell 1
      have zl := HA.out.lt
      simp at za zb
      go_cut [] (fun wc => ∃ (S2 : CS) (v2 : Value) (In2 : List Int) (A0 : Nat) (kd pg : Int), Hid (Inv S2 M In2) ∧ Hid (Holds wc (pts A0 (.cells #[.int .i64 kd, .int .i64 pg] 90) * keepA bx v2 In2 a S2 w)) ∧ Hid (Sm w wc))
      case first =>
        by_cases z0 : kd = 0
        · subst z0
          have HA1 := Lib.hid (HA.out)
          have inl : Hid (In.length ≤ 8500) := by show _ ≤ _; have := I.out.len; have h1 := I.out.g.there; have h2 := I.out.g.m2; omega
          have HA2 : Hid (Holds W0 (ck a S * (pts A0 (.cells #[.int .i64 0, .int .i64 pg] 90) * (boxA bx v * (intsA v In * all w))))) := HA1.out.eqv (by unfold keepA; ac_rfl)
          have AD := Lib.hid (add_any a (pts A0 (.cells #[.int .i64 0, .int .i64 pg] 90) * (boxA bx v * (intsA v In * all w))) I.out.g OK.out HA2.out)
          have A2 := Lib.hid (here_add2 I.out.g pg I.out.n)
          have AL := add_len S pg I.out.g
          have GT := Lib.hid (good_add I.out.g pg)
          have TM : Hid ((addS S pg).S.most = M) := (add_most I.out.g pg).trans I.out.m
          have SAME : Hid (∀ (T : CS), T = S → Inv T M In) := fun T h => by rw [h]; exact I.out
          have IOK := Lib.hid I.out.ok
          have IP := Lib.hid I.out.p
          have IN := Lib.hid I.out.n
          obtain ⟨r, hr⟩ : ∃ r, addS S pg = r := ⟨_, rfl⟩
          rw [hr] at AD A2 AL GT TM
          obtain ⟨T, rl, re⟩ := r
          replace AL : rl.length ≤ 8500 := AL
          clear HA hr HA1 HA2
          go_wp2_with fail
          refine (AD.out).mono ?_
          rintro e w2 ⟨vg, rfl, h2, s2⟩
          obtain ⟨aog, capg, hvg, hcapg, -⟩ := ints_slice h2
          replace hvg : vg = .slice aog rl.length capg := hvg
          obtain ⟨ng, hng⟩ : ∃ q, rl.length = q := ⟨_, rfl⟩
          rw [hng] at hvg AL
          subst hvg
          have HNG := Lib.hid hng
          have H2 : Hid (Holds w2 (intsA (.slice aog ng capg) rl * (ck a T * (pts A0 (.cells #[.int .i64 0, .int .i64 pg] 90) * (boxA bx v * (intsA v In * all w)))))) := h2
          have S2 := Lib.hid (HS0.out.trans s2)
          clear h2 s2 AD hng hcapg HH HS d0 d1 ob' za zb zl I
          rcases A2.out with ⟨re0, hnew, rest, hp1, hp2⟩ | ⟨rne, hrl, hTS⟩
          · obtain rfl : re = 0 := re0
            have P1 : Hid (In.Perm (rl ++ rest)) := IP.out.trans hp1
            have P2 : Hid ((hereIds T).Perm (rest ++ [pg])) := hp2
            have ND : Hid ((hereIds T).Nodup) := by
              refine (hp2.nodup_iff).2 (List.nodup_append.2 ⟨(List.nodup_append.1 ((hp1.nodup_iff).1 IN.out)).2.1, by simp, ?_⟩)
              intro x hx y hy
              simp only [List.mem_singleton] at hy
              subst hy
              rintro rfl
              exact hnew ((hp1.mem_iff).2 (List.mem_append_right _ hx))
            clear A2 hnew hp1 hp2 SAME IP IN
            go_wp2_with fail
            go_loopw [13] (fun x wl => ∃ (q : Nat) (v' : Value) (In' : List Int), q ≤ ng ∧ x = .int .i64 q ∧ Hid (In'.Perm (rl.drop q ++ rest)) ∧ Hid (∀ i ∈ In', okK i) ∧ Hid (In'.length ≤ 8500) ∧ Hid (Holds wl (intsA (.slice aog ng capg) rl * (ck a T * (pts A0 (.cells #[.int .i64 0, .int .i64 pg] 90) * (boxA bx v' * (intsA v' In' * all w)))))) ∧ Hid (Sm w wl)) (fun x _ => ng - (intOf x).toNat)
            case atStart => exact ⟨0, v, In, Nat.zero_le _, rfl, by show List.Perm _ _; simpa using P1.out, IOK.out, inl.out, H2.out, S2.out⟩
            case round =>
              clear H2 S2 P1 IOK inl
              obtain ⟨q, v', In', hq, rfl, PP, OKS, LI, HL, SL⟩ := hrel
              by_cases hqn : q < ng
              · have hql : q < rl.length := by rw [HNG.out]; exact hqn
                obtain ⟨g, cap3, hv, -, hg, gc⟩ := ints_cell HL.out q hql
                simp at hv
                obtain ⟨hao, -⟩ := hv
                obtain ⟨x, hx⟩ : ∃ x, rl[q] = x := ⟨_, rfl⟩
                rw [hx] at gc
                have PD : rl.drop q = x :: rl.drop (q + 1) := by rw [← hx]; exact List.drop_eq_getElem_cons hql
                rw [PD] at PP
                have xin : Hid (x ∈ In') := (PP.out.mem_iff).2 (by simp)
                have PN : Hid ((In'.erase x).Perm (rl.drop (q + 1) ++ rest)) := by
                  have := PP.out.erase x
                  rw [List.cons_append, List.erase_cons_head] at this
                  exact this
                have ON : Hid (∀ i ∈ In'.erase x, okK i) := fun i hi => OKS.out i (List.mem_of_mem_erase hi)
                have LN : Hid ((In'.erase x).length ≤ 8500) := Nat.le_trans (List.length_erase_le) LI.out
                have LV : Hid (Calls Try.prog 49 #[.int .i64 x, .pointer (some ⟨bx, 0, none⟩)] wr fun e w' => e = .returned (.bool true) ∧ ∃ v'', Holds w' (boxA bx v'' * (intsA v'' (In'.erase x) * (intsA (.slice aog ng capg) rl * (ck a T * (pts A0 (.cells #[.int .i64 0, .int .i64 pg] 90) * all w))))) ∧ Sm wr w') := by
                  refine (leave_calls bx v' In' x (intsA (.slice aog ng capg) rl * (ck a T * (pts A0 (.cells #[.int .i64 0, .int .i64 pg] 90) * all w))) wr (Nat.le_trans LI.out (by omega)) (HL.out.eqv (by ac_rfl))).mono ?_
                  rintro e w' ⟨rfl, v'', k1, k2⟩
                  exact ⟨by rw [show decide (x ∈ In') = true by simpa using xin.out], v'', k1, k2⟩
                have j0 : (0 : Int) ≤ (q : Int) := by omega
                have j1 : (q : Int) < (ng : Int) := by omega
                subst hao
                clear hx PD PP OKS xin HL LI
                go_wp2_with fail
                refine (LV.out).mono ?_
                rintro e w3 ⟨rfl, v'', h3, s3⟩
                have H3 : Hid (Holds w3 (intsA (.slice (some ⟨g, 0, none⟩) ng capg) rl * (ck a T * (pts A0 (.cells #[.int .i64 0, .int .i64 pg] 90) * (boxA bx v'' * (intsA v'' (In'.erase x) * all w)))))) := h3.eqv (by ac_rfl)
                have S3 := Lib.hid (SL.out.trans s3)
                clear h3 s3 LV SL
                go_wp2_with fail
                go_roundw
                case rel => exact ⟨q + 1, v'', In'.erase x, by omega, by go_num, PN.out, ON.out, LN.out, H3.out, S3.out⟩
                case measure => simp [intOf]; omega
              · obtain rfl : ng = q := by omega
                have PR : Hid (In'.Perm rest) := by
                  have := PP.out
                  rw [List.drop_of_length_le (by rw [HNG.out]; exact Nat.le_refl _), List.nil_append] at this
                  exact this
                obtain ⟨ao1, cap1, hv1, hcap1, hmx1⟩ := ints_slice (HL.out.eqv (by ac_rfl : _ = intsA v' In' * (intsA (.slice aog ng capg) rl * (ck a T * (pts A0 (.cells #[.int .i64 0, .int .i64 pg] 90) * (boxA bx v' * all w))))))
                obtain ⟨n1, hn1⟩ : ∃ q, In'.length = q := ⟨_, rfl⟩
                rw [hn1] at hv1 hcap1
                subst hv1
                have hbx := HL.out.eqv (by ac_rfl : _ = boxA bx (.slice ao1 n1 cap1) * (intsA (.slice ao1 n1 cap1) In' * (intsA (.slice aog ng capg) rl * (ck a T * (pts A0 (.cells #[.int .i64 0, .int .i64 pg] 90) * all w)))))
                have b0 := hbx.cell 0
                have bf := hbx.frozen 0
                have bl := hbx.lt
                simp at b0
                have hap := HL.out.eqv (by ac_rfl : _ = pts A0 (.cells #[.int .i64 0, .int .i64 pg] 90) * (intsA (.slice ao1 n1 cap1) In' * (intsA (.slice aog ng capg) rl * (ck a T * (boxA bx (.slice ao1 n1 cap1) * all w)))))
                have ap1 := hap.cell 1
                have apl := hap.lt
                simp at ap1
                have HRW := Lib.hid (((hbx.eqv (star_left_comm _ _ _)).alloc (.cells #[.int .i64 pg] 3)).right)
                have HL1 : Hid (In'.length + 1 ≤ maxLen) := by show _ ≤ _; have := LI.out; unfold maxLen; omega
                have HL2 : Hid ((In'.length + 1) * 8 ≤ 140737488355328) := by show _ ≤ _; have := LI.out; omega
                have IV : Hid (Inv T M (In' ++ [pg])) := by
                  have hp : (In' ++ [pg]).Perm (hereIds T) := (List.Perm.append_right [pg] PR.out).trans P2.out.symm
                  refine ⟨GT.out, TM.out, hp, ND.out, fun i hi => ?_⟩
                  · rcases List.mem_append.1 hi with hi | hi
                    · exact OKS.out i hi
                    · simp only [List.mem_singleton] at hi; subst hi; exact OK.out
                clear hbx hap hmx1 HL PP OKS PR P2 GT TM hqn hn1 hcap1 LI
                go_wp2_with (at_builtin; refine wpList_append_one (enc := iEnc) rfl _ _ 28 rfl 3 (.int .i64 0) 1 8 Try.underlying28 infoI rfl pg rfl HRW.out ⟨wr.heap.size, 0, none⟩ 1 rfl rfl (cells_new wr #[.int .i64 pg] 3 _ rfl) (by simp [iEnc, Value.oneCell']) HL1.out HL2.out ?_)
                intro v3 w3 h3 s3
                obtain ⟨ao3, cap3, hv3, -⟩ := rowA_slice h3
                subst hv3
                have hb3 := h3.eqv (star_left_comm _ _ _ : _ = boxA bx (.slice ao1 n1 cap1) * _)
                have b03 := hb3.cell 0
                have bf3 := hb3.frozen 0
                have bl3 := hb3.lt
                have hs3 := Holds.store hb3 0 (.slice ao3 (In' ++ [pg]).length cap3)
                have HT : Hid (Holds (w3.setCell ⟨bx, 0, none⟩ (.slice ao3 (In' ++ [pg]).length cap3)) (pts A0 (.cells #[.int .i64 0, .int .i64 pg] 90) * keepA bx (.slice ao3 (In' ++ [pg]).length cap3) (In' ++ [pg]) a T w)) := by
                  show Holds _ _
                  refine Holds.right (A := intsA (.slice aog ng capg) rl) (Holds.eqv (A := boxA bx (.slice ao3 (In' ++ [pg]).length cap3) * (intsA (.slice ao3 (In' ++ [pg]).length cap3) (In' ++ [pg]) * (intsA (.slice aog ng capg) rl * (ck a T * (pts A0 (.cells #[.int .i64 0, .int .i64 pg] 90) * all w))))) hs3 ?_)
                  unfold keepA; ac_rfl
                have ST := Lib.hid (((SL.out.alloc (.cells #[.int .i64 pg] 3)).trans s3).setCell ⟨bx, 0, none⟩ (.slice ao3 (In' ++ [pg]).length cap3))
                clear h3 s3 hb3 hs3 HRW SL HL1 HL2
                obtain ⟨n3, hn3⟩ : ∃ q, (In' ++ [pg]).length = q := ⟨_, rfl⟩
                rw [hn3] at HT ST ⊢
                clear hn3
                go_wp2_with fail
                clear b0 bf bl ap1 apl b03 bf3 bl3 OK
                obtain ⟨wT, hwT⟩ : ∃ q, w3.setCell ⟨bx, 0, none⟩ (.slice ao3 n3 cap3) = q := ⟨_, rfl⟩
                rw [hwT] at HT ST ⊢
                clear hwT
                obtain ⟨S2, hS2⟩ : ∃ q, T = q := ⟨_, rfl⟩
                obtain ⟨v2, hv2⟩ : ∃ q, Value.slice ao3 n3 cap3 = q := ⟨_, rfl⟩
                obtain ⟨In2, hIn2⟩ : ∃ q, In' ++ [pg] = q := ⟨_, rfl⟩
                rw [hS2, hv2, hIn2] at HT
                rw [hS2, hIn2] at IV
                clear hS2 hv2 hIn2
                obtain ⟨kd, hkd⟩ : ∃ q : Int, 0 = q := ⟨_, rfl⟩
                rw [hkd] at HT
                clear hkd
                go_meet
                case rel => exact ⟨_, _, _, _, _, _, IV.out, HT.out, ST.out⟩
          · have hre : (re == 0) = false := by simpa using rne
            obtain rfl : ng = 0 := by
              have : rl = [] := hrl
              rw [← HNG.out, this]; rfl
            have IV := Lib.hid (SAME.out T hTS)
            have H3 : Hid (Holds w2 (pts A0 (.cells #[.int .i64 0, .int .i64 pg] 90) * keepA bx v In a T w)) := by
              show Holds _ _
              refine Holds.right (A := intsA (.slice aog 0 capg) rl) (H2.out.eqv ?_)
              unfold keepA; ac_rfl
            clear A2 rne hrl hTS SAME IP IN GT TM H2 inl IOK
            go_wp2_with fail
            go_loopw [13] (fun x wl => x = .int .i64 0 ∧ Hid (Holds wl (pts A0 (.cells #[.int .i64 0, .int .i64 pg] 90) * keepA bx v In a T w)) ∧ Hid (Sm w wl)) (fun x _ => 0)
            case atStart => exact ⟨rfl, H3.out, S2.out⟩
            case round =>
              clear H3 S2
              obtain ⟨rfl, HT, ST⟩ := hrel
              go_wp2_with fail
              clear OK HNG
              obtain ⟨wT, hwT⟩ : ∃ q, wr = q := ⟨_, rfl⟩
              rw [hwT] at HT ST ⊢
              clear hwT
              obtain ⟨S2, hS2⟩ : ∃ q, T = q := ⟨_, rfl⟩
              obtain ⟨v2, hv2⟩ : ∃ q, v = q := ⟨_, rfl⟩
              obtain ⟨In2, hIn2⟩ : ∃ q, In = q := ⟨_, rfl⟩
              rw [hS2, hv2, hIn2] at HT
              rw [hS2, hIn2] at IV
              clear hS2 hv2 hIn2
              obtain ⟨kd, hkd⟩ : ∃ q : Int, 0 = q := ⟨_, rfl⟩
              rw [hkd] at HT
              clear hkd
              go_meet
              case rel => exact ⟨_, _, _, _, _, _, IV.out, HT.out, ST.out⟩
        by_cases z1 : kd = 1
        · subst z1
          have HA1 := Lib.hid (HA.out)
          have TC := Lib.hid (fun (wq : World) h => touch_calls a S (pts A0 (.cells #[.int .i64 1, .int .i64 pg] 90) * (boxA bx v * (intsA v In * all w))) wq pg OK.out h)
          have IV : Hid (Inv (touchS S pg) M In) := Lib.hid (I.out.touch pg)
          clear HA z0
          go_wp2_with fail
          refine (TC.out _ (HA1.out.eqv (by unfold keepA; ac_rfl))).mono ?_
          rintro e w2 ⟨rfl, h2, s2⟩
          have HT : Hid (Holds w2 (pts A0 (.cells #[.int .i64 1, .int .i64 pg] 90) * keepA bx v In a (touchS S pg) w)) := h2.eqv (by unfold keepA; ac_rfl)
          have ST := Lib.hid (HS0.out.trans s2)
          clear h2 s2 TC HA1 I HH HS d0 d1 OK ob' za zb zl
          go_wp2_with fail
          obtain ⟨wT, hwT⟩ : ∃ q, w2 = q := ⟨_, rfl⟩
          rw [hwT] at HT ST ⊢
          clear hwT
          obtain ⟨kd, hkd⟩ : ∃ q : Int, 1 = q := ⟨_, rfl⟩
          rw [hkd] at HT
          clear hkd
          obtain ⟨S2, hS2⟩ : ∃ q, touchS S pg = q := ⟨_, rfl⟩
          obtain ⟨v2, hv2⟩ : ∃ q, v = q := ⟨_, rfl⟩
          obtain ⟨In2, hIn2⟩ : ∃ q, In = q := ⟨_, rfl⟩
          rw [hS2, hv2, hIn2] at HT
          rw [hS2, hIn2] at IV
          clear hS2 hv2 hIn2
          go_meet
          case rel => exact ⟨_, _, _, _, _, _, IV.out, HT.out, ST.out⟩
        by_cases z2 : kd = 2
        · subst z2
          have HA1 := Lib.hid (HA.out)
          have inl : Hid (In.length ≤ 100000) := by show _ ≤ _; have := I.out.len; have h1 := I.out.g.there; have h2 := I.out.g.m2; omega
          have EV := Lib.hid (fun (wq : World) h => evict_calls a S ((pts A0 (.cells #[.int .i64 2, .int .i64 pg] 90)) * (boxA bx v * (intsA v In * all w))) wq I.out.g.bnd h)
          have LV := Lib.hid (fun (wq : World) (U : CS) (p : Int) (h : Holds wq (boxA bx v * (intsA v In * (ck a U * ((pts A0 (.cells #[.int .i64 2, .int .i64 pg] 90)) * all w))))) => leave_calls bx v In p (ck a U * ((pts A0 (.cells #[.int .i64 2, .int .i64 pg] 90)) * all w)) wq inl.out h)
          have EI := Lib.hid I.out.evict
          obtain ⟨ao1, cap1, hv1, hcap1, hmx1⟩ := ints_slice (HH.out.eqv (by unfold keepA; ac_rfl : _ = intsA v In * (boxA bx v * (ck a S * all w))))
          obtain ⟨n1, hn1⟩ : ∃ q, In.length = q := ⟨_, rfl⟩
          rw [hn1] at hv1 hcap1
          have HN1 := Lib.hid hn1
          obtain ⟨r, hr⟩ : ∃ r, evictS S = r := ⟨_, rfl⟩
          rw [hr] at EV EI
          obtain ⟨rS, rid, rok⟩ := r
          clear HA z0 z1 hr hn1 hmx1
          go_wp2_with fail
          refine (EV.out _ (HA1.out.eqv (by unfold keepA; ac_rfl))).mono ?_
          rintro e w2 ⟨rfl, h2, s2⟩
          have H2 : Hid (Holds w2 (boxA bx v * (intsA v In * (ck a rS * ((pts A0 (.cells #[.int .i64 2, .int .i64 pg] 90)) * all w))))) := h2.eqv (by ac_rfl)
          have b0 := H2.out.cell 0
          have bl := H2.out.lt
          simp at b0
          rw [hv1] at b0
          have ST2 := Lib.hid (HS0.out.trans s2)
          have LV2 := Lib.hid (LV.out w2 rS rid H2.out)
          clear h2 s2 EV HA1 HH HS d0 d1 OK ob' za zb zl hv1 LV
          rcases EI.out with ⟨ok, npos, rin, IV0⟩ | ⟨ok, nz, IV0⟩
          · obtain rfl : rok = true := ok
            have npos' : 0 < n1 := by rw [← HN1.out]; exact npos
            have g1 : decide (0 < n1) = true := by simpa using npos'
            have LV3 : Hid (Calls Try.prog 49 #[.int .i64 rid, .pointer (some ⟨bx, 0, none⟩)] w2 fun e w' => e = .returned (.bool true) ∧ ∃ v', Holds w' (boxA bx v' * (intsA v' (In.erase rid) * (ck a rS * ((pts A0 (.cells #[.int .i64 2, .int .i64 pg] 90)) * all w)))) ∧ Sm w2 w') := by
              refine LV2.out.mono ?_
              rintro e w' ⟨rfl, v', k1, k2⟩
              exact ⟨by rw [show decide (rid ∈ In) = true by simpa using rin], v', k1, k2⟩
            have IV : Hid (Inv rS M (In.erase rid)) := IV0
            clear EI LV2 npos rin IV0 I inl H2
            go_wp2_with fail
            refine (LV3.out).mono ?_
            rintro e w3 ⟨rfl, v', h3, s3⟩
            have HT : Hid (Holds w3 ((pts A0 (.cells #[.int .i64 2, .int .i64 pg] 90)) * keepA bx v' (In.erase rid) a rS w)) := h3.eqv (by unfold keepA; ac_rfl)
            have ST := Lib.hid (ST2.out.trans s3)
            clear h3 s3 LV3 ST2 HN1 b0 bl
            go_wp2_with fail
            obtain ⟨S2, hS2⟩ : ∃ q, rS = q := ⟨_, rfl⟩
            obtain ⟨v2, hv2⟩ : ∃ q, v' = q := ⟨_, rfl⟩
            obtain ⟨In2, hIn2⟩ : ∃ q, In.erase rid = q := ⟨_, rfl⟩
            rw [hS2, hv2, hIn2] at HT
            rw [hS2, hIn2] at IV
            clear hS2 hv2 hIn2
            obtain ⟨wT, hwT⟩ : ∃ q, w3 = q := ⟨_, rfl⟩
            rw [hwT] at HT ST ⊢
            clear hwT
            obtain ⟨kd, hkd⟩ : ∃ q : Int, 2 = q := ⟨_, rfl⟩
            rw [hkd] at HT
            clear hkd
            go_meet
            case rel => exact ⟨_, _, _, _, _, _, IV.out, HT.out, ST.out⟩
          · obtain rfl : rok = false := ok
            obtain rfl : n1 = 0 := by rw [← HN1.out]; exact nz
            have IV : Hid (Inv rS M In) := IV0
            have HT : Hid (Holds w2 ((pts A0 (.cells #[.int .i64 2, .int .i64 pg] 90)) * keepA bx v In a rS w)) := H2.out.eqv (by unfold keepA; ac_rfl)
            have ST := Lib.hid ST2.out
            clear EI LV2 nz IV0 I inl H2 ST2
            go_wp2_with fail
            clear HN1 b0 bl
            obtain ⟨S2, hS2⟩ : ∃ q, rS = q := ⟨_, rfl⟩
            obtain ⟨v2, hv2⟩ : ∃ q, v = q := ⟨_, rfl⟩
            obtain ⟨In2, hIn2⟩ : ∃ q, In = q := ⟨_, rfl⟩
            rw [hS2, hv2, hIn2] at HT
            rw [hS2, hIn2] at IV
            clear hS2 hv2 hIn2
            obtain ⟨wT, hwT⟩ : ∃ q, w2 = q := ⟨_, rfl⟩
            rw [hwT] at HT ST ⊢
            clear hwT
            obtain ⟨kd, hkd⟩ : ∃ q : Int, 2 = q := ⟨_, rfl⟩
            rw [hkd] at HT
            clear hkd
            go_meet
            case rel => exact ⟨_, _, _, _, _, _, IV.out, HT.out, ST.out⟩
        by_cases z3 : kd = 3
        · subst z3
          have HA1 := Lib.hid (HA.out)
          have inl : Hid (In.length ≤ 100000) := by show _ ≤ _; have := I.out.len; have h1 := I.out.g.there; have h2 := I.out.g.m2; omega
          have KD := Lib.hid (fun (wq : World) h => kind_calls a S ((pts A0 (.cells #[.int .i64 3, .int .i64 pg] 90)) * (boxA bx v * (intsA v In * all w))) wq pg OK.out h)
          have RM := Lib.hid (fun (wq : World) h => remove_calls a S ((pts A0 (.cells #[.int .i64 3, .int .i64 pg] 90)) * (boxA bx v * (intsA v In * all w))) wq pg OK.out h)
          have LV := Lib.hid (fun (wq : World) (U : CS) (p : Int) (h : Holds wq (boxA bx v * (intsA v In * (ck a U * ((pts A0 (.cells #[.int .i64 3, .int .i64 pg] 90)) * all w))))) => leave_calls bx v In p (ck a U * ((pts A0 (.cells #[.int .i64 3, .int .i64 pg] 90)) * all w)) wq inl.out h)
          have IK := Lib.hid (I.out.kind pg)
          have IV := Lib.hid (I.out.remove pg)
          have KR := kind_range S pg
          obtain ⟨kk, hkk⟩ : ∃ q, kindS S pg = q := ⟨_, rfl⟩
          simp only [hkk] at KD RM
          rw [hkk] at IK KR
          have LVK : Hid (∀ (wq : World) (U : CS) (h : Holds wq (boxA bx v * (intsA v In * (ck a U * ((pts A0 (.cells #[.int .i64 3, .int .i64 pg] 90)) * all w))))), Calls Try.prog 49 #[.int .i64 pg, .pointer (some ⟨bx, 0, none⟩)] wq fun e w' => e = .returned (.bool (isHere kk)) ∧ ∃ v', Holds w' (boxA bx v' * (intsA v' (In.erase pg) * (ck a U * ((pts A0 (.cells #[.int .i64 3, .int .i64 pg] 90)) * all w)))) ∧ Sm wq w') := by
            intro wq U h
            refine (LV.out wq U pg h).mono ?_
            rintro e w' ⟨rfl, v', k1, k2⟩
            exact ⟨by rw [IK.out], v', k1, k2⟩
          have HA2 : Hid (Holds W0 (ck a S * ((pts A0 (.cells #[.int .i64 3, .int .i64 pg] 90)) * (boxA bx v * (intsA v In * all w))))) := HA1.out.eqv (by unfold keepA; ac_rfl)
          clear HA z0 z1 z2 hkk HA1 I
          rcases KR with rfl | rfl | rfl | rfl
          all_goals
            go_wp2_with fail
            refine (KD.out _ HA2.out).mono ?_
            rintro e w' ⟨rfl, rfl⟩
            go_wp2_with fail
            refine (RM.out _ HA2.out).mono ?_
            rintro e w2 ⟨rfl, h2, s2⟩
            have H2 : Hid (Holds w2 (boxA bx v * (intsA v In * (ck a (removeS S pg) * ((pts A0 (.cells #[.int .i64 3, .int .i64 pg] 90)) * all w))))) := h2.eqv (by ac_rfl)
            have LV2 := Lib.hid (LVK.out w2 (removeS S pg) H2.out)
            have ap := (H2.out.eqv (by ac_rfl : _ = ((pts A0 (.cells #[.int .i64 3, .int .i64 pg] 90)) * (boxA bx v * (intsA v In * (ck a (removeS S pg) * all w))))))
            have ap1 := ap.cell 1
            have apl := ap.lt
            simp at ap1
            have ST2 := Lib.hid (HS0.out.trans s2)
            first | rw [show isHere 0 = false from rfl] at LV2 | rw [show isHere 1 = true from rfl] at LV2 | rw [show isHere 2 = true from rfl] at LV2 | rw [show isHere 3 = false from rfl] at LV2
            have LV3 := Lib.hid LV2.out
            clear h2 s2 RM KD LV LVK LV2 H2 ap HA2 IK inl
            go_wp2_with fail
            refine (LV3.out).mono ?_
            rintro e w3 ⟨rfl, v', h3, s3⟩
            have HT : Hid (Holds w3 ((pts A0 (.cells #[.int .i64 3, .int .i64 pg] 90)) * keepA bx v' (In.erase pg) a (removeS S pg) w)) := h3.eqv (by unfold keepA; ac_rfl)
            have ST := Lib.hid (ST2.out.trans s3)
            clear h3 s3 LV3 ST2 HH HS d0 d1 OK ob' za zb zl ap1 apl
            go_wp2_with fail
            obtain ⟨S2, hS2⟩ : ∃ q, removeS S pg = q := ⟨_, rfl⟩
            obtain ⟨v2, hv2⟩ : ∃ q, v' = q := ⟨_, rfl⟩
            obtain ⟨In2, hIn2⟩ : ∃ q, In.erase pg = q := ⟨_, rfl⟩
            rw [hS2, hv2, hIn2] at HT
            rw [hS2, hIn2] at IV
            clear hS2 hv2 hIn2
            obtain ⟨wT, hwT⟩ : ∃ q, w3 = q := ⟨_, rfl⟩
            rw [hwT] at HT ST ⊢
            clear hwT
            obtain ⟨kd, hkd⟩ : ∃ q : Int, 3 = q := ⟨_, rfl⟩
            rw [hkd] at HT
            clear hkd
            go_meet
            case rel => exact ⟨_, _, _, _, _, _, IV.out, HT.out, ST.out⟩
        have t0 : (kd == 0) = false := by simpa using z0
        have t1 : (kd == 1) = false := by simpa using z1
        have t2 : (kd == 2) = false := by simpa using z2
        have t3 : (kd == 3) = false := by simpa using z3
        clear z0 z1 z2 z3
        go_wp2_with fail
        obtain ⟨wT, hwT⟩ : ∃ q, W0 = q := ⟨_, rfl⟩
        have HT := Lib.hid HA.out
        have ST := Lib.hid HS0.out
        rw [hwT] at HT ST ⊢
        obtain ⟨S2, hS2⟩ : ∃ q, S = q := ⟨_, rfl⟩
        obtain ⟨v2, hv2⟩ : ∃ q, v = q := ⟨_, rfl⟩
        obtain ⟨In2, hIn2⟩ : ∃ q, In = q := ⟨_, rfl⟩
        rw [hS2, hv2, hIn2] at HT
        have IV := Lib.hid I.out
        rw [hS2, hIn2] at IV
        clear HA I HH HS hS2 hv2 hIn2 hwT d0 d1 OK t0 t1 t2 t3 ob' za zb zl
        go_meet
        case rel => exact ⟨_, _, _, _, _, _, IV.out, HT.out, ST.out⟩
      case rest =>

        clear HA HH HS I OK d0 d1 ob' za zb zl HS0
        obtain ⟨S2, v2, In2, A0, kd, pg, IV, HT, ST⟩ := hcut
        go_wp2_with fail
        obtain ⟨ao2, cap2, hv2, hcap2, hmx2⟩ := ints_slice (HT.out.eqv (by unfold keepA; ac_rfl : _ = intsA v2 In2 * (pts A0 (.cells #[.int .i64 kd, .int .i64 pg] 90) * (boxA bx v2 * (ck a S2 * all w)))))
        subst hv2
        have hbx := HT.out.eqv (by unfold keepA; ac_rfl : _ = boxA bx (.slice ao2 In2.length cap2) * (ck a S2 * (pts A0 (.cells #[.int .i64 kd, .int .i64 pg] 90) * (intsA (.slice ao2 In2.length cap2) In2 * all w))))
        have b0 := hbx.cell 0
        have bl := hbx.lt
        simp at b0
        have hck2 := hbx.eqv (star_left_comm _ _ _)
        have C1 := Lib.hid (count_q a S2 _ wc 1 (okK_of (by omega) (by omega)) hck2)
        have C2 := Lib.hid (count_q a S2 _ wc 2 (okK_of (by omega) (by omega)) hck2)
        have C3 := Lib.hid (count_q a S2 _ wc 3 (okK_of (by omega) (by omega)) hck2)
        have TG := Lib.hid (target_q a S2 _ wc hck2)
        have gl := IV.out.len
        have g1 := IV.out.g.there
        have g2 := IV.out.g.test
        have g3 := IV.out.g.t1
        have g4 := IV.out.g.t2
        rw [IV.out.m] at g1 g2 g4
        obtain ⟨cx, hx⟩ : ∃ q, S2.cold.length = q := ⟨_, rfl⟩
        obtain ⟨cy, hy⟩ : ∃ q, S2.hot.length = q := ⟨_, rfl⟩
        obtain ⟨cz, hz⟩ : ∃ q, S2.test.length = q := ⟨_, rfl⟩
        obtain ⟨tt, htt⟩ : ∃ q, S2.target = q := ⟨_, rfl⟩
        obtain ⟨n2, hn2⟩ : ∃ q, In2.length = q := ⟨_, rfl⟩
        have HN2 := Lib.hid hn2
        simp only [show listS S2 1 = S2.cold from rfl, hx] at C1
        simp only [show listS S2 2 = S2.hot from rfl, hy] at C2
        simp only [show listS S2 3 = S2.test from rfl, hz] at C3
        rw [htt] at TG g3 g4
        rw [hz] at g2
        unfold thereS at gl g1
        rw [hx, hy] at gl g1
        rw [hn2] at gl b0 hcap2
        have xy : cx + cy = n2 := gl.symm
        have nM : n2 ≤ M := by omega
        have zM : cz ≤ M := by omega
        have e1 : decide (M < n2) = false := by simp; omega
        have e2 : decide ((M : Int) < (n2 : Int)) = false := by simp; omega
        have e3 : decide (M < cz) = false := by simp; omega
        have e4 : decide (tt < 1) = false := by simp; omega
        have e5 : decide ((M : Int) < tt) = false := by simp; omega
        have e6 : IntKind.i64.wrap ((cx : Int) + (cy : Int)) = (n2 : Int) := by rw [IntWalk.i64_in _ (by omega)]; omega
        have e7 : (n2 != n2) = false := by simp
        have e8 : ((n2 : Int) != (n2 : Int)) = false := by simp
        have HT2 := Lib.hid (HT.out)
        clear hbx hck2 gl g1 g2 g3 g4 hx hy hz htt hn2 xy HT hmx2
        go_quiet ((first | (go_at_call 42; (first | (with_reducible exact Calls.quiet_of_same (C1.out _)) | (with_reducible exact Calls.quiet_of_same (C2.out _)) | (with_reducible exact Calls.quiet_of_same (C3.out _)))) | (go_at_call 28; (with_reducible exact Calls.quiet_of_same (TG.out _)))))

        clear e1 e2 e3 e4 e5 e6 e7 e8 C1 C2 C3 TG
        go_wp2_with fail
        go_loopw [17] (fun x wl => ∃ j : Nat, j ≤ n2 ∧ x = .int .i64 j ∧ Hid (Holds wl (pts A0 (.cells #[.int .i64 kd, .int .i64 pg] 90) * keepA bx (.slice ao2 In2.length cap2) In2 a S2 w)) ∧ Hid (Sm w wl)) (fun x _ => n2 - (intOf x).toNat)
        case atStart => exact ⟨0, Nat.zero_le _, rfl, HT2.out, ST.out.drewN _⟩
        case round =>
          clear HT2 ST b0 bl
          obtain ⟨j, hj, rfl, HL, SL⟩ := hrel
          have hbx := HL.out.eqv (by unfold keepA; ac_rfl : _ = boxA bx (.slice ao2 In2.length cap2) * (ck a S2 * (pts A0 (.cells #[.int .i64 kd, .int .i64 pg] 90) * (intsA (.slice ao2 In2.length cap2) In2 * all w))))
          have b0 := hbx.cell 0
          have bl := hbx.lt
          simp at b0
          rw [HN2.out] at b0
          by_cases hjn : j < n2
          · have hjl : j < In2.length := by rw [HN2.out]; exact hjn
            obtain ⟨g, cap3, hv, -, hg, gc⟩ := ints_cell (HL.out.eqv (by unfold keepA; ac_rfl : _ = intsA (.slice ao2 In2.length cap2) In2 * (pts A0 (.cells #[.int .i64 kd, .int .i64 pg] 90) * (boxA bx (.slice ao2 In2.length cap2) * (ck a S2 * all w))))) j hjl
            obtain ⟨x, hx⟩ : ∃ x, In2[j] = x := ⟨_, rfl⟩
            have hxm : x ∈ In2 := by rw [← hx]; exact List.getElem_mem hjl
            have KD := Lib.hid (kind_calls a S2 _ wr x (IV.out.ok x hxm) (hbx.eqv (star_left_comm _ _ _)))
            have hk12 := IV.out.here hxm
            rw [hx] at gc
            have j0 : (0 : Int) ≤ (j : Int) := by omega
            have j1 : (j : Int) < (n2 : Int) := by omega
            simp at hv
            obtain ⟨hao, -⟩ := hv
            rw [hao] at b0
            obtain ⟨kk, hkk⟩ : ∃ q, kindS S2 x = q := ⟨_, rfl⟩
            rw [hkk] at KD hk12
            clear hbx hx hxm hkk hao
            rcases hk12 with rfl | rfl
            all_goals
              go_wp2_with (go_at_call 27; refine (KD.out).mono ?_; rintro e w' ⟨rfl, rfl⟩)
              go_roundw
              case rel => exact ⟨j + 1, by omega, by go_num, HL.out, SL.out⟩
              case measure => simp [intOf]; omega
          · have HR : Hid (Holds wr (keepA bx (.slice ao2 In2.length cap2) In2 a S2 w)) := HL.out.right
            obtain rfl : n2 = j := by omega
            clear hbx
            go_wp2_with fail
            go_roundw
            case rel => exact ⟨k + 1, S2, _, In2, by omega, by omega, by go_num, IV.out, HR.out, SL.out⟩
            case measure => simp [intOf]; omega
    · have FIN := Lib.hid (Holds.below (HH.out.eqv (by unfold keepA; ac_rfl : _ = (boxA bx v * (intsA v In * ck a S)) * all w)) HS.out)
      by_cases hka : k < len
      · obtain rfl : k = 200 := by omega
        clear hkl
        go_wp2_with fail
        go_ret
        exact ⟨rfl, FIN.out⟩
      · obtain rfl : k = len := by omega
        clear hkl
        go_wp2_with fail
        go_ret
        exact ⟨rfl, FIN.out⟩
#print axioms keeps_walk
end Go.Proofs.Ytbmcfmcolhgibaa.Clock
