/-
  ClockproPlays, the walk.
-/
import Derived.Test.YtmaoboepmbioiaaActs2
import Derived.Test.YtmaoboepmbioiaaRef19g
import Derived.Deep.DeepCutAuto
import Derived.Deep.CutBlock
import Derived.Deep.RegionHeld3
namespace Go.Proofs.Ytmaoboepmbioiaa.Clock
open Go.RowKit Go.Sep
set_option maxRecDepth 100000
set_option linter.unusedVariables false
set_option linter.unusedSimpArgs false

def intsA (v : Value) (l : List Int) : Asr := rowL 3 1 iEnc v l
theorem iEnc_flat (l : List Int) : (l.flatMap iEnc).length = l.length := by
  have := flat_size (enc := iEnc) (l := l) (fun _ => rfl)
  simpa [flat] using this
theorem iEnc_get (l : List Int) (j : Nat) : (l.flatMap iEnc)[j]? = (l[j]?).map (Value.int .i64) := by
  have : l.flatMap iEnc = l.map (Value.int .i64) := by
    induction l with
    | nil => rfl
    | cons x l ih => simp [iEnc, ih]
  rw [this, List.getElem?_map]
theorem ints_cell {w : World} {v : Value} {l : List Int} {F : Asr} (h : Holds w (intsA v l * F)) (i : Nat) (hi : i < l.length) :
    ∃ g cap, v = .slice (some ⟨g, 0, none⟩) l.length cap ∧ l.length ≤ cap ∧ g < w.heap.size ∧ w.cell? ⟨g, i, none⟩ = some (.int .i64 l[i]) := by
  obtain ⟨g, cap, h1, h2, h3, h4, h5⟩ := rowL_cell h (fun _ => rfl) i hi
  have := h4 0 (by omega)
  simp [iEnc] at this
  exact ⟨g, cap, h1, h2, h3, this⟩
theorem ints_slice {w : World} {v : Value} {l : List Int} {F : Asr} (h : Holds w (intsA v l * F)) : ∃ ao cap, v = .slice ao l.length cap ∧ l.length ≤ cap ∧ cap ≤ maxLen := by
  rcases (rowA_cases h).2 with ⟨rfl, hl, -⟩ | ⟨g, cap, cur, rfl, h1, h2, -⟩
  · rw [hl]; exact ⟨none, 0, rfl, Nat.le_refl _, Nat.zero_le _⟩
  · exact ⟨_, cap, rfl, h1, h2⟩
def playA (a b : Nat) (S : CS) (w : World) : Asr := ck a S * (rk b S * all w)
theorem count_q (a : Nat) (S : CS) (F : Asr) (w : World) (k : Int) (hk : okK k) (hck : Holds w (ck a S * F)) (n : Nat) :
    Calls Try.prog 43 #[.pointer (some ⟨a, 0, none⟩), .int .i64 k] (w.drewN n) fun e w' => e = .returned (.int .i64 ((listS S k).length : Nat)) ∧ w' = w.drewN n :=
  (count_calls a S F (w.drewN n) k hk hck).mono fun _ _ ⟨h, e⟩ => ⟨h, e.symm⟩
theorem target_q (a : Nat) (S : CS) (F : Asr) (w : World) (hck : Holds w (ck a S * F)) (n : Nat) :
    Calls Try.prog 44 #[.pointer (some ⟨a, 0, none⟩)] (w.drewN n) fun e w' => e = .returned (.int .i64 S.target) ∧ w' = w.drewN n :=
  (target_calls a S F (w.drewN n) hck).mono fun _ _ ⟨h, e⟩ => ⟨h, e.symm⟩
theorem kind_q (a : Nat) (S : CS) (F : Asr) (w : World) (id : Int) (hid : okK id) (hck : Holds w (ck a S * F)) (n : Nat) :
    Calls Try.prog 41 #[.pointer (some ⟨a, 0, none⟩), .int .i64 id] (w.drewN n) fun e w' => e = .returned (.int .i64 (kindS S id)) ∧ w' = w.drewN n :=
  (kind_calls a S F (w.drewN n) id hid hck).mono fun _ _ ⟨h, e⟩ => ⟨h, e.symm⟩
theorem rkind_q (b : Nat) (S : CS) (F : Asr) (w : World) (id : Int) (hrk : Holds w (rk b S * F)) (n : Nat) :
    Calls Try.prog 42 #[.pointer (some ⟨b, 0, none⟩), .int .i64 id] (w.drewN n) fun e w' => e = .returned (.int .i64 (kindS S id)) ∧ w' = w.drewN n :=
  (rkind_calls b S F (w.drewN n) id hrk).mono fun _ _ ⟨h, e⟩ => ⟨h, e.symm⟩

set_option maxHeartbeats 4000000 in
theorem plays_walk (most : Int) (ao : Option Addr) (len cap : Nat) (zs : List (Int × Int)) (w : World) (hacts : IsActs2 w ao len cap zs) :
    Calls Try.prog 4 #[.int .i64 most, .slice ao len cap] w fun e w' => e = .returned (.bool true) ∧ Below w.heap.size w w' := by
  by_cases hm : most < 1 ∨ 4096 < most
  · have NW := Lib.hid (fun w => new_no most w hm)
    have RN := Lib.hid (fun w => rnew_no most w hm)
    clear hm hacts
    go_enter Try.func4, Try.ntmps4
    go_wp2_with fail
    refine (NW.out _).mono ?_
    rintro e w' ⟨rfl, rfl⟩
    go_wp2_with fail
    refine (RN.out _).mono ?_
    rintro e w' ⟨rfl, rfl⟩
    go_wp2_with fail
    go_ret
    exact ⟨rfl, Below.refl _ _⟩
  have ACTS := Lib.hid hacts
  have NW := Lib.hid (new_calls most (all w) w (by omega) (by omega) (holds_all w))
  have RN := Lib.hid (fun (F : Asr) (w : World) h => rnew_calls most F w (by omega) (by omega) h)
  have G0 := Lib.hid (good_new (m := most) (by omega) (by omega))
  clear hm hacts
  go_enter Try.func4, Try.ntmps4
  go_wp2_with fail
  refine (NW.out).mono ?_
  rintro e w1 ⟨a, rfl, h1, s1⟩
  have H1 := Lib.hid h1
  have S1 := Lib.hid s1
  clear h1 s1 NW
  go_wp2_with fail
  refine (RN.out _ _ H1.out).mono ?_
  rintro e w2 ⟨b, rfl, h2, s2⟩
  have H2 : Hid (Holds w2 (playA a b (newS most) w)) := h2.eqv (by unfold playA; ac_rfl)
  have S2 := Lib.hid (S1.out.trans s2)
  clear h2 s2 RN H1 S1
  go_wp2_with fail
  go_loopw [9] (fun x wr => ∃ (k : Nat) (S : CS), k ≤ len ∧ k ≤ 300 ∧ x = .int .i64 k ∧ Hid (Good S) ∧ Hid (Holds wr (playA a b S w)) ∧ Hid (Sm w wr)) (fun x _ => len - (intOf x).toNat)
  case atStart => exact ⟨0, newS most, Nat.zero_le _, by omega, rfl, G0.out, H2.out, S2.out⟩
  case round =>
    clear H2 S2 G0
    obtain ⟨k, S, hk, hk2, rfl, G, HH, HS⟩ := hrel
    by_cases hkl : k < len ∧ k < 300
    · obtain ⟨hka, hkb⟩ := hkl
      obtain ⟨ob, oo, rfl, hlc, hzl, hob, hcell, hwf⟩ := acts2_at ACTS.out (by omega)
      have hbel := Holds.below (HH.out.eqv (by unfold playA; ac_rfl : _ = (ck a S * rk b S) * all w)) HS.out
      obtain ⟨c0, c1⟩ := hcell k (by omega)
      have d0 := (hbel.cell (p := ⟨ob, oo + k * 2, none⟩) hob).trans c0
      have d1 := (hbel.cell (p := ⟨ob, oo + k * 2 + 1, none⟩) hob).trans c1
      obtain ⟨hw0, hw1⟩ := hwf k (by omega)
      obtain ⟨kd, hkd⟩ : ∃ z, (zs[k]'(by omega)).1 = z := ⟨_, rfl⟩
      obtain ⟨pg, hpg⟩ : ∃ z, (zs[k]'(by omega)).2 = z := ⟨_, rfl⟩
      rw [hkd] at d0
      rw [hpg] at d1 hw1
      have OK : Hid (okK pg) := hw1
      have k0 : (0 : Int) ≤ (k : Int) := by omega
      have k1 : (k : Int) < (len : Int) := by omega
      have q2 : decide ((k : Int) < 300) = true := by simp; omega
      have q3 : decide (k < 300) = true := by simp; omega
      have ob' : ob < wr.heap.size := Nat.lt_of_lt_of_le hob HS.out.size
      have HA := Lib.hid (HH.out.alloc (.cells #[.int .i64 kd, .int .i64 pg] 62))
      clear hbel c0 c1 hcell hwf hw0 hw1 hkd hpg hzl hob
      go_upto_block 2 with (fail)
      obtain ⟨A0, hA0⟩ : ∃ q, wr.heap.size = q := ⟨_, rfl⟩
      rw [hA0] at HA ⊢
      clear hA0
      have HS0 := Lib.hid (HS.out.alloc (.cells #[.int .i64 kd, .int .i64 pg] 62))
      obtain ⟨W0, hW0⟩ : ∃ q, wr.alloc (.cells #[.int .i64 kd, .int .i64 pg] 62) = q := ⟨_, rfl⟩
      rw [hW0] at HA HS0 ⊢
      clear hW0
      have za := HA.out.cell 0
      have zb := HA.out.cell 1
      have zl := HA.out.lt
      simp at za zb
      go_cut [] (fun wc => ∃ (S2 : CS), Hid (Good S2) ∧ Hid (Holds wc (pts A0 (.cells #[.int .i64 kd, .int .i64 pg] 62) * playA a b S2 w)) ∧ Hid (Sm w wc))
      case first =>
        clear HH HS d0 d1 ob'
        have U := Lib.hid (ck_uq (HA.out.eqv (by unfold playA; ac_rfl : _ = ck a S * (rk b S * ((pts A0 (.cells #[.int .i64 kd, .int .i64 pg] 62)) * all w)))))
        obtain ⟨PW, hPW⟩ : ∃ q, (pts A0 (.cells #[.int .i64 kd, .int .i64 pg] 62)) * all w = q := ⟨_, rfl⟩
        have HPW := Lib.hid hPW
        have HX : Hid (Holds W0 (ck a S * (rk b S * PW))) := by
          show Holds _ _
          rw [← hPW]
          exact HA.out.eqv (by unfold playA; ac_rfl)
        have zc : Hid (∀ (wq : World) (G : Asr), Holds wq (G * PW) → A0 < wq.heap.size ∧ wq.cell? ⟨A0, 0, none⟩ = some (.int .i64 kd) ∧ wq.cell? ⟨A0, 1, none⟩ = some (.int .i64 pg)) := by
          intro wq G h
          rw [← hPW] at h
          have h := h.eqv (by ac_rfl : _ = pts A0 (.cells #[.int .i64 kd, .int .i64 pg] 62) * (G * all w))
          have x0 := h.cell 0
          have x1 := h.cell 1
          simp at x0 x1
          exact ⟨h.lt, x0, x1⟩
        clear hPW HA
        by_cases z0 : kd = 0
        · subst z0
          have AD := Lib.hid (add_any a (rk b S * PW) G.out OK.out HX.out)
          have RD := Lib.hid (fun (wq : World) (F : Asr) h => radd_calls b S F wq pg U.out G.out.bnd G.out.tot h)
          have AL := add_len S pg G.out
          have GF : Hid (Good (addS S pg).S) := good_add G.out pg
          obtain ⟨r, hr⟩ : ∃ r, addS S pg = r := ⟨_, rfl⟩
          rw [hr] at AD RD AL GF
          obtain ⟨T, rl, re⟩ := r
          replace AL : rl.length ≤ 8500 := AL
          clear hr U G
          go_wp2_with fail
          refine (AD.out).mono ?_
          rintro e w2 ⟨vg, rfl, h2, s2⟩
          obtain ⟨-, -, y1⟩ := zc.out w2 _ (h2.eqv (by ac_rfl : _ = (rowL 3 1 iEnc vg rl * (ck a T * rk b S)) * PW))
          have yl := (zc.out w2 _ (h2.eqv (by ac_rfl : _ = (rowL 3 1 iEnc vg rl * (ck a T * rk b S)) * PW))).1
          have H2 : Hid (Holds w2 (rk b S * (rowL 3 1 iEnc vg rl * (ck a T * PW)))) := h2.eqv (by ac_rfl)
          have S2 := Lib.hid (HS0.out.trans s2)
          clear h2 s2 AD HX zl za zb
          go_wp2_with fail
          refine (RD.out _ _ H2.out).mono ?_
          rintro e w3 ⟨vh, rfl, h3, s3⟩
          have h3 : Holds w3 (intsA vg rl * (intsA vh rl * (ck a T * (rk b T * PW)))) := h3.eqv (by unfold intsA; ac_rfl)
          obtain ⟨aog, capg, hvg, hcapg, -⟩ := ints_slice h3
          obtain ⟨aoh, caph, hvh, hcaph, -⟩ := ints_slice (h3.eqv (star_left_comm _ _ _))
          obtain ⟨ng, hng⟩ : ∃ q, rl.length = q := ⟨_, rfl⟩
          rw [hng] at hvg AL hvh
          subst hvg hvh
          have HNG := Lib.hid hng
          have H3 := Lib.hid h3
          have S3 := Lib.hid (S2.out.trans s3)
          have f0 : (re != re) = false := by simp
          have f1 : ((ng : Int) != (ng : Int)) = false := by simp
          have f2 : (ng != ng) = false := by simp
          clear h3 s3 RD hng hcapg hcaph H2 S2 y1 yl
          go_wp2_with fail
          go_loopw [15] (fun x wl => ∃ (q : Nat), q ≤ ng ∧ x = .int .i64 q ∧ Hid (Holds wl (intsA (.slice aog ng capg) rl * (intsA (.slice aoh ng caph) rl * (ck a T * (rk b T * PW))))) ∧ Hid (Sm w wl)) (fun x _ => ng - (intOf x).toNat)
          case atStart => exact ⟨0, Nat.zero_le _, rfl, H3.out, S3.out⟩
          case round =>
            clear H3 S3
            obtain ⟨q, hq, rfl, HL, SL⟩ := hrel
            by_cases hqn : q < ng
            · have hql : q < rl.length := by rw [HNG.out]; exact hqn
              obtain ⟨g, cap3, hv, -, hg, gc⟩ := ints_cell HL.out q hql
              obtain ⟨g', cap4, hv', -, hg', gc'⟩ := ints_cell (HL.out.eqv (star_left_comm _ _ _)) q hql
              simp at hv hv'
              obtain ⟨hao, -⟩ := hv
              obtain ⟨hao', -⟩ := hv'
              obtain ⟨x, hx⟩ : ∃ x, rl[q] = x := ⟨_, rfl⟩
              rw [hx] at gc gc'
              have j0 : (0 : Int) ≤ (q : Int) := by omega
              have j1 : (q : Int) < (ng : Int) := by omega
              have ex : (x != x) = false := by simp
              subst hao hao'
              clear hx
              go_wp2_with fail
              go_quiet (fail)
              go_wp2_with fail
              go_roundw
              case rel => exact ⟨q + 1, by omega, by go_num, HL.out, SL.out.drewN _⟩
              case measure => simp [intOf]; omega
            · obtain rfl : ng = q := by omega
              have HF : Hid (Holds _ (ck a T * (rk b T * PW))) := HL.out.right.right
              have SF := Lib.hid SL.out
              clear HL SL
              go_wp2_with fail
              have HT : Hid (Holds _ (pts A0 (.cells #[.int .i64 0, .int .i64 pg] 62) * playA a b T w)) := HF.out.eqv (by unfold playA; rw [← HPW.out]; ac_rfl)
              go_meet
              case rel => exact ⟨_, GF.out, HT.out, SF.out⟩
        by_cases z1 : kd = 1
        · subst z1
          obtain ⟨bx, hbx⟩ : ∃ q, isHere (kindS S pg) = q := ⟨_, rfl⟩
          have TX : Hid (∀ wq, Holds wq (ck a S * (rk b S * PW)) → Calls Try.prog 35 #[.pointer (some ⟨a, 0, none⟩), .int .i64 pg] wq fun e w' => e = .returned (.bool bx) ∧ Holds w' (rk b S * (ck a (touchS S pg) * PW)) ∧ Sm wq w' ∧ w'.cell? ⟨A0, 1, none⟩ = some (.int .i64 pg)) := by
            intro wq h
            refine (touch_calls a S _ wq pg OK.out h).mono ?_
            rintro e w' ⟨rfl, h1, h2⟩
            have h3 := h1.eqv (star_left_comm _ _ _)
            exact ⟨by rw [hbx], h3, h2, (zc.out w' _ (h3.eqv (star_assoc _ _ _).symm)).2.2⟩
          have TY : Hid (∀ wq, Holds wq (rk b S * (ck a (touchS S pg) * PW)) → Calls Try.prog 36 #[.pointer (some ⟨b, 0, none⟩), .int .i64 pg] wq fun e w' => e = .returned (.bool bx) ∧ Holds w' (ck a (touchS S pg) * (rk b (touchS S pg) * PW)) ∧ Sm wq w' ∧ w'.cell? ⟨A0, 1, none⟩ = some (.int .i64 pg)) := by
            intro wq h
            refine (rtouch_calls b S _ wq pg U.out h).mono ?_
            rintro e w' ⟨rfl, h1, h2⟩
            have h3 := h1.eqv (star_left_comm _ _ _)
            exact ⟨by rw [hbx], h3, h2, (zc.out w' _ (h3.eqv (star_assoc _ _ _).symm)).2.2⟩
          have GF : Hid (Good (touchS S pg)) := good_touch G.out pg
          have eb : (bx != bx) = false := by simp
          clear hbx zl U G
          go_wp2_with fail
          go_region_held3 (fun w' => w'.cell? ⟨A0, 1, none⟩ = some (.int .i64 pg)) (first | exact x3 | exact x2 | exact zb | go_keep)
            (first | (go_at_call 35; refine (TX.out _ ?_).mono ?_; (exact HX.out); rintro e w2 ⟨rfl, h2, s2, x2⟩; have H2 := Lib.hid h2; have S2 := Lib.hid s2; clear h2 s2) | (go_at_call 36; refine (TY.out _ ?_).mono ?_; (exact H2.out); rintro e w3 ⟨rfl, h3, s3, x3⟩; have H3 := Lib.hid h3; have S3 := Lib.hid s3; clear h3 s3))
          have HF := Lib.hid H3.out
          have SF : Hid (Sm w w3) := (HS0.out.drew.trans S2.out).trans S3.out
          clear HX TX TY H2 H3 S2 S3 x2 x3 zc
          go_wp2_with fail
          have HT : Hid (Holds _ (pts A0 (.cells #[.int .i64 1, .int .i64 pg] 62) * playA a b (touchS S pg) w)) := HF.out.eqv (by unfold playA; rw [← HPW.out]; ac_rfl)
          go_meet
          case rel => exact ⟨_, GF.out, HT.out, SF.out⟩
        by_cases z2 : kd = 2
        · subst z2
          have AD := Lib.hid (evict_calls a S _ W0 G.out.bnd HX.out)
          have RD := Lib.hid (fun (wq : World) (F : Asr) h => revict_calls b S F wq G.out.bnd h)
          have GF : Hid (Good (evictS S).S) := good_evict G.out
          obtain ⟨r, hr⟩ : ∃ r, evictS S = r := ⟨_, rfl⟩
          rw [hr] at AD RD GF
          obtain ⟨T, rid, rok⟩ := r
          clear hr U G
          go_wp2_with fail
          refine (AD.out).mono ?_
          rintro e w2 ⟨rfl, h2, s2⟩
          have H2 : Hid (Holds w2 (rk b S * (ck a T * PW))) := h2.eqv (star_left_comm _ _ _)
          have S2 := Lib.hid (HS0.out.trans s2)
          clear h2 s2 AD HX zl za zb
          go_wp2_with fail
          refine (RD.out _ _ H2.out).mono ?_
          rintro e w3 ⟨rfl, h3, s3⟩
          have HF : Hid (Holds w3 (ck a T * (rk b T * PW))) := h3.eqv (star_left_comm _ _ _)
          have SF := Lib.hid (S2.out.trans s3)
          have f0 : (rid != rid) = false := by simp
          have f1 : (rok != rok) = false := by simp
          clear h3 s3 RD H2 S2
          go_wp2_with fail
          have HT : Hid (Holds _ (pts A0 (.cells #[.int .i64 2, .int .i64 pg] 62) * playA a b T w)) := HF.out.eqv (by unfold playA; rw [← HPW.out]; ac_rfl)
          go_meet
          case rel => exact ⟨_, GF.out, HT.out, SF.out⟩
        by_cases z3 : kd = 3
        · subst z3
          obtain ⟨bx, hbx⟩ : ∃ q, (kindS S pg != 0) = q := ⟨_, rfl⟩
          have TX : Hid (∀ wq, Holds wq (ck a S * (rk b S * PW)) → Calls Try.prog 39 #[.pointer (some ⟨a, 0, none⟩), .int .i64 pg] wq fun e w' => e = .returned (.bool bx) ∧ Holds w' (rk b S * (ck a (removeS S pg) * PW)) ∧ Sm wq w' ∧ w'.cell? ⟨A0, 1, none⟩ = some (.int .i64 pg)) := by
            intro wq h
            refine (remove_calls a S _ wq pg OK.out h).mono ?_
            rintro e w' ⟨rfl, h1, h2⟩
            have h3 := h1.eqv (star_left_comm _ _ _)
            exact ⟨by rw [hbx], h3, h2, (zc.out w' _ (h3.eqv (star_assoc _ _ _).symm)).2.2⟩
          have TY : Hid (∀ wq, Holds wq (rk b S * (ck a (removeS S pg) * PW)) → Calls Try.prog 40 #[.pointer (some ⟨b, 0, none⟩), .int .i64 pg] wq fun e w' => e = .returned (.bool bx) ∧ Holds w' (ck a (removeS S pg) * (rk b (removeS S pg) * PW)) ∧ Sm wq w' ∧ w'.cell? ⟨A0, 1, none⟩ = some (.int .i64 pg)) := by
            intro wq h
            refine (rremove_calls b S _ wq pg U.out G.out.bnd h).mono ?_
            rintro e w' ⟨rfl, h1, h2⟩
            have h3 := h1.eqv (star_left_comm _ _ _)
            exact ⟨by rw [hbx], h3, h2, (zc.out w' _ (h3.eqv (star_assoc _ _ _).symm)).2.2⟩
          have GF : Hid (Good (removeS S pg)) := good_remove G.out pg
          have eb : (bx != bx) = false := by simp
          clear hbx zl U G
          go_wp2_with fail
          go_region_held3 (fun w' => w'.cell? ⟨A0, 1, none⟩ = some (.int .i64 pg)) (first | exact x3 | exact x2 | exact zb | go_keep)
            (first | (go_at_call 39; refine (TX.out _ ?_).mono ?_; (exact HX.out); rintro e w2 ⟨rfl, h2, s2, x2⟩; have H2 := Lib.hid h2; have S2 := Lib.hid s2; clear h2 s2) | (go_at_call 40; refine (TY.out _ ?_).mono ?_; (exact H2.out); rintro e w3 ⟨rfl, h3, s3, x3⟩; have H3 := Lib.hid h3; have S3 := Lib.hid s3; clear h3 s3))
          have HF := Lib.hid H3.out
          have SF : Hid (Sm w w3) := (HS0.out.drew.trans S2.out).trans S3.out
          clear HX TX TY H2 H3 S2 S3 x2 x3 zc
          go_wp2_with fail
          have HT : Hid (Holds _ (pts A0 (.cells #[.int .i64 3, .int .i64 pg] 62) * playA a b (removeS S pg) w)) := HF.out.eqv (by unfold playA; rw [← HPW.out]; ac_rfl)
          go_meet
          case rel => exact ⟨_, GF.out, HT.out, SF.out⟩
        have t0 : (kd == 0) = false := by simpa using z0
        have t1 : (kd == 1) = false := by simpa using z1
        have t2 : (kd == 2) = false := by simpa using z2
        have t3 : (kd == 3) = false := by simpa using z3
        have HF := Lib.hid HX.out
        have SF := Lib.hid HS0.out
        have GF := Lib.hid G.out
        clear z0 z1 z2 z3 U zc
        go_wp2_with fail
        have HT : Hid (Holds _ (pts A0 (.cells #[.int .i64 kd, .int .i64 pg] 62) * playA a b S w)) := HF.out.eqv (by unfold playA; rw [← HPW.out]; ac_rfl)
        go_meet
        case rel => exact ⟨_, GF.out, HT.out, SF.out⟩
      case rest =>
        clear HA HH HS G d0 d1 ob' za zb zl HS0
        obtain ⟨S2, G, HT, ST⟩ := hcut
        go_wp2_with fail
        have hx := HT.out.eqv (by unfold playA; ac_rfl : _ = ck a S2 * (rk b S2 * (pts A0 (.cells #[.int .i64 kd, .int .i64 pg] 62) * all w)))
        have hy := hx.eqv (star_left_comm _ _ _)
        have z1 := HT.out.cell 1
        have zl := HT.out.lt
        simp at z1
        have KX := Lib.hid (kind_q a S2 _ wc pg OK.out hx)
        have KY := Lib.hid (rkind_q b S2 _ wc pg hy)
        have C1 := Lib.hid (count_q a S2 _ wc 1 (okK_of (by omega) (by omega)) hx)
        have C2 := Lib.hid (count_q a S2 _ wc 2 (okK_of (by omega) (by omega)) hx)
        have C3 := Lib.hid (count_q a S2 _ wc 3 (okK_of (by omega) (by omega)) hx)
        have C9 := Lib.hid (count_q a S2 _ wc 9 (okK_of (by omega) (by omega)) hx)
        have TG := Lib.hid (target_q a S2 _ wc hx)
        obtain ⟨ao1, cap1, ao2, cap2, ao3, cap3, hw, al, c0, c1, c2, c3, c4, cf⟩ := rk_slices hy
        simp only [show listS S2 9 = [] from rfl, List.length_nil] at C9
        simp only [show listS S2 1 = S2.cold from rfl] at C1
        simp only [show listS S2 2 = S2.hot from rfl] at C2
        simp only [show listS S2 3 = S2.test from rfl] at C3
        obtain ⟨cx, hx1⟩ : ∃ q, S2.cold.length = q := ⟨_, rfl⟩
        obtain ⟨cy, hy1⟩ : ∃ q, S2.hot.length = q := ⟨_, rfl⟩
        obtain ⟨cz, hz1⟩ : ∃ q, S2.test.length = q := ⟨_, rfl⟩
        obtain ⟨tt, htt⟩ : ∃ q, S2.target = q := ⟨_, rfl⟩
        obtain ⟨kk, hkk⟩ : ∃ q, kindS S2 pg = q := ⟨_, rfl⟩
        rw [hx1] at C1 c2
        rw [hy1] at C2 c3
        rw [hz1] at C3 c4
        rw [htt] at TG c1
        rw [hkk] at KX KY
        have e0 : (kk != kk) = false := by simp
        have e1 : ((cx : Int) != (cx : Int)) = false := by simp
        have e2 : ((cy : Int) != (cy : Int)) = false := by simp
        have e3 : ((cz : Int) != (cz : Int)) = false := by simp
        have e1n : (cx != cx) = false := by simp
        have e2n : (cy != cy) = false := by simp
        have e3n : (cz != cz) = false := by simp
        have e4 : (tt != tt) = false := by simp
        clear hx hy hw cf hx1 hy1 hz1 htt hkk c0
        go_quiet ((first | (go_at_call 41; (with_reducible exact Calls.quiet_of_same (KX.out _))) | (go_at_call 42; (with_reducible exact Calls.quiet_of_same (KY.out _))) | (go_at_call 43; (first | (with_reducible exact Calls.quiet_of_same (C1.out _)) | (with_reducible exact Calls.quiet_of_same (C2.out _)) | (with_reducible exact Calls.quiet_of_same (C3.out _)) | (with_reducible exact Calls.quiet_of_same (C9.out _)))) | (go_at_call 44; (with_reducible exact Calls.quiet_of_same (TG.out _)))))
        clear e0 e1 e2 e3 e4 e1n e2n e3n KX KY C1 C2 C3 C9 TG
        have HT2 : Hid (Holds wc (playA a b S2 w)) := HT.out.right
        clear HT
        go_wp2_with fail
        go_roundw
        case rel => exact ⟨k + 1, S2, by omega, by omega, by go_num, G.out, HT2.out, ST.out.drewN _⟩
        case measure => simp [intOf]; omega
    · have FIN := Lib.hid (Holds.below (HH.out.eqv (by unfold playA; ac_rfl : _ = (ck a S * rk b S) * all w)) HS.out)
      by_cases hka : k < len
      · obtain rfl : k = 300 := by omega
        clear hkl
        go_wp2_with fail
        go_ret
        exact ⟨rfl, FIN.out⟩
      · obtain rfl : k = len := by omega
        clear hkl
        go_wp2_with fail
        go_ret
        exact ⟨rfl, FIN.out⟩
#print axioms plays_walk
end Go.Proofs.Ytmaoboepmbioiaa.Clock
