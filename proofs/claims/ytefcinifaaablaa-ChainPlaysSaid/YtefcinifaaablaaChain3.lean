/-
  Layer 16: Append.
-/
import Derived.Test.YtefcinifaaablaaChainLen
import Derived.Test.YtefcinifaaablaaSlabFl
import Derived.Test.YtefcinifaaablaaReg
namespace Go.Proofs.Ytefcinifaaablaa.Chain
open Go.RowKit Go.Sep
open Go.Proofs.Ytefcinifaaablaa.Slab (szOf szN szN_val clsFor Ar hdl hdlV ABlk allocA dropA writeA Took Src u8s)
set_option maxRecDepth 100000
set_option linter.unusedVariables false
set_option linter.unusedSimpArgs false

/-! ### Append -/
set_option maxHeartbeats 8000000 in
theorem append_calls (c a : Nat) (K : Ch) (A : List (List ABlk)) (F : Asr) (so : Option Addr) (sn sc : Nat) (bs : List Int) (w : World) (hK : OkC K) (hB : Bytes F so sn sc bs) (hw : Holds w (chA c a K * (Ar a A * F))) :
    Calls Try.prog 12 #[.pointer (some ⟨c, 0, none⟩), .slice so sn sc] w (AppC (appA A K bs) c a F w) := by
  have ST := Lib.hid (state_calls c a K A F w hw)
  have HW := Lib.hid hw
  have HB := Lib.hid hB
  have KK := Lib.hid hK
  have hsn := hB.len
  have hcap := hB.cap
  have hbig := hB.big
  clear hB hw
  cases hfr : K.freed with
  | true =>
    have RS : Hid (appA A K bs = ⟨A, K, 16⟩) := by show _ = _; unfold appA; rw [hfr]; rfl
    unfold stateE at ST
    rw [hfr] at ST
    clear hfr hK hsn
    go_enter Try.func12, Try.ntmps12
    go_wp2_with fail
    refine (ST.out).mono ?_
    rintro e w1 ⟨rfl, hb1⟩
    go_wp2_with fail
    go_ret
    exact ⟨by rw [RS.out]; rfl, by rw [RS.out]; exact HW.out.grow hb1, .of_below hb1⟩
  | false =>
    unfold stateE at ST
    rw [hfr] at ST
    cases hsh : K.shared with
    | true =>
      have RS : Hid (appA A K bs = ⟨A, K, 2⟩) := by show _ = _; unfold appA; rw [hfr, hsh]; rfl
      have FC : Hid (∀ w', Below w.heap.size w w' → w'.cell? ⟨c, 4, none⟩ = some (.bool true) ∧ c < w'.heap.size) := by
        intro w' hb
        obtain ⟨v, hv⟩ := chA_seen (HW.out.grow hb)
        exact ⟨by rw [hv.c4, hsh], hv.lt⟩
      clear hfr hsh hK hsn
      go_enter Try.func12, Try.ntmps12
      go_wp2_with fail
      refine (ST.out).mono ?_
      rintro e w1 ⟨rfl, hb1⟩
      obtain ⟨x4, xl⟩ := FC.out w1 hb1
      have B1 := Lib.hid hb1
      clear hb1 ST FC
      go_wp2_with fail
      go_ret
      exact ⟨by rw [RS.out]; rfl, by rw [RS.out]; exact HW.out.grow B1.out, .of_below B1.out⟩
    | false =>
      have FC : Hid (∀ w', Below w.heap.size w w' → w'.cell? ⟨c, 4, none⟩ = some (.bool false) ∧ w'.cell? ⟨c, 2, none⟩ = some (.int .i64 K.long) ∧ w'.cell? ⟨c, 3, none⟩ = some (.int .i64 K.charge) ∧ c < w'.heap.size) := by
        intro w' hb
        obtain ⟨v, hv⟩ := chA_seen (HW.out.grow hb)
        exact ⟨by rw [hv.c4, hsh], hv.c2, hv.c3, hv.lt⟩
      have k1 := hK.l0
      have k2 := hK.l1
      have k3 := hK.c0
      have k4 := hK.c1
      by_cases hbg : 1048576 - K.long < bs.length
      · have RS : Hid (appA A K bs = ⟨A, K, 3⟩) := by show _ = _; unfold appA; rw [hfr, hsh]; simp only [Bool.false_eq_true, if_false]; rw [if_pos hbg]
        rw [hsn] at hbg
        obtain ⟨lg, hlg⟩ : ∃ q, K.long = q := ⟨_, rfl⟩
        rw [hlg] at FC k1 k2 hbg
        have d0 : decide (1048576 - lg < (sn : Int)) = true := by simpa using hbg
        have lw : IntKind.i64.wrap (1048576 - lg) = 1048576 - lg := IntWalk.i64_in _ (by omega)
        clear hfr hsh hK hsn hlg k3 k4
        go_enter Try.func12, Try.ntmps12
        go_wp2_with fail
        refine (ST.out).mono ?_
        rintro e w1 ⟨rfl, hb1⟩
        obtain ⟨x4, x2, x3, xl⟩ := FC.out w1 hb1
        have B1 := Lib.hid hb1
        clear hb1 ST FC
        go_wp2_with fail
        go_ret
        exact ⟨by rw [RS.out]; rfl, by rw [RS.out]; exact HW.out.grow B1.out, .of_below B1.out⟩
      · have RS : Hid (appA A K bs = (let r := roomA A (bs.length - (K.charge - K.long)); if r.e = 0 then (⟨(fillL bs (lastS r.A K bs) r.l).A, { K with l := K.l ++ r.l, charge := K.charge + sizes r.l, long := K.long + bs.length }, 0⟩ : Appd) else ⟨r.A, K, r.e⟩)) := by
          show _ = _
          unfold appA; rw [hfr, hsh]; simp only [Bool.false_eq_true, if_false]; rw [if_neg hbg]
        rw [hsn] at hbg RS
        have RM := Lib.hid (fun (wq : World) h => room_calls c a K A F ((sn : Int) - (K.charge - K.long)) wq (by omega) (by omega) h)
        have RC0 := room_all A ((sn : Int) - (K.charge - K.long))
        have RB0 := roomF_len ((sn : Int) - (K.charge - K.long)).toNat A ((sn : Int) - (K.charge - K.long)) []
        rw [show roomF ((sn : Int) - (K.charge - K.long)).toNat A ((sn : Int) - (K.charge - K.long)) [] = roomA A ((sn : Int) - (K.charge - K.long)) from rfl] at RB0
        have RB1 : (roomA A ((sn : Int) - (K.charge - K.long))).l.length ≤ sn := by simp only [List.length_nil] at RB0; omega
        clear RB0
        obtain ⟨r, hr⟩ : ∃ q, roomA A ((sn : Int) - (K.charge - K.long)) = q := ⟨_, rfl⟩
        rw [hr] at RC0 RB1
        have RC := Lib.hid RC0
        have RB := Lib.hid RB1
        clear RC0 RB1
        simp only [hr] at RS RM
        obtain ⟨rA, rl, re⟩ := r
        obtain ⟨lg, hlg⟩ : ∃ q, K.long = q := ⟨_, rfl⟩
        obtain ⟨cg, hcg⟩ : ∃ q, K.charge = q := ⟨_, rfl⟩
        rw [hlg] at FC RM k1 k2 hbg k3 k4
        rw [hcg] at FC RM k3 k4
        have HLG := Lib.hid hlg
        have HCG := Lib.hid hcg
        have d0 : decide (1048576 - lg < (sn : Int)) = false := by simpa using hbg
        have lw : IntKind.i64.wrap (1048576 - lg) = 1048576 - lg := IntWalk.i64_in _ (by omega)
        have lw2 : IntKind.i64.wrap (cg - lg) = cg - lg := IntWalk.i64_in _ (by omega)
        have lw3 : IntKind.i64.wrap ((sn : Int) - (cg - lg)) = (sn : Int) - (cg - lg) := IntWalk.i64_in _ (by omega)
        have HSN := Lib.hid hsn
        clear hfr hsh hK hsn hlg hcg hr
        go_enter Try.func12, Try.ntmps12
        go_wp2_with fail
        refine (ST.out).mono ?_
        rintro e w1 ⟨rfl, hb1⟩
        obtain ⟨x4, x2, x3, xl⟩ := FC.out w1 hb1
        have H1 := Lib.hid (HW.out.grow hb1)
        have S1 : Hid (Sm w w1) := .of_below hb1
        clear hb1 ST FC HW
        go_wp2_with fail
        have XC : Hid (∀ (wq : World) (G : Asr), Holds wq (chA c a K * G) → wq.cell? ⟨c, 2, none⟩ = some (.int .i64 lg) ∧ wq.cell? ⟨c, 3, none⟩ = some (.int .i64 cg)) := by
          intro wq G h
          obtain ⟨v, hv⟩ := chA_seen h
          exact ⟨by rw [hv.c2, HLG.out], by rw [hv.c3, HCG.out]⟩
        have zz : w1.cell? ⟨c, 2, none⟩ = some (.int .i64 lg) ∧ w1.cell? ⟨c, 3, none⟩ = some (.int .i64 cg) := ⟨x2, x3⟩
        go_region_held3 (fun w' => w'.cell? ⟨c, 2, none⟩ = some (.int .i64 lg) ∧ w'.cell? ⟨c, 3, none⟩ = some (.int .i64 cg)) (first | exact y23 | exact zz | go_keep) (first | (go_at_call 47; refine (RM.out _ ?_).mono ?_; (exact H1.out); rintro e w2 ⟨vr, rfl, h2, s2⟩; have y23 := XC.out w2 _ (h2.eqv (star_left_comm _ _ _)); have H2 := Lib.hid h2; have S2 := Lib.hid (S1.out.drew.trans s2); clear h2 s2))
        clear RM H1 S1 x2 x3 x4 xl zz
        obtain ⟨y2, y3⟩ := y23
        by_cases hre : re = 0
        rotate_left
        · have e0 : (re != 0) = true := by simpa using hre
          have RS2 : Hid (appA A K bs = ⟨rA, K, re⟩) := by show _ = _; have := RS.out; first | (rw [if_neg hre] at this; exact this) | (simp only [if_neg hre] at this; exact this)
          clear hre RS
          go_wp2_with fail
          go_ret
          exact ⟨by rw [RS2.out]; try rfl, by rw [RS2.out]; exact H2.out.right, S2.out⟩
        · subst hre
          have RS2 : Hid (appA A K bs = ⟨(fillL bs (lastS rA K bs) rl).A, { K with l := K.l ++ rl, charge := K.charge + sizes rl, long := K.long + sn }, 0⟩) := by show _ = _; have := RS.out; first | (rw [if_pos rfl] at this; exact this) | (rw [if_pos trivial] at this; exact this) | (simp only [if_true] at this; exact this)
          clear RS
          have h3 := H2.out.eqv (by ac_rfl : _ = chA c a K * (hls vr rl * (Ar a rA * F)))
          obtain ⟨vk, hvk⟩ := ch_open h3
          have cs := ch_seen hvk
          obtain ⟨ao, cap, e1, hcl⟩ := rowA_slice (hvk.eqv (star_left_comm _ _ _))
          subst e1
          have c1 := cs.c1
          have cl := cs.lt
          obtain ⟨n, hn⟩ : ∃ q, K.l.length = q := ⟨_, rfl⟩
          rw [hn] at c1 hcl
          have HV := Lib.hid hvk
          have HN := Lib.hid hn
          have n9 : n ≤ 20000 := by rw [← hn]; exact KK.out.n
          clear h3 cs hvk hn
          go_upto_if 61 with (fail)
          obtain ⟨W2, hW2⟩ : ∃ q, w2 = q := ⟨_, rfl⟩
          go_cut [8] (fun x wc => x = .int .i64 ((lastS rA K bs).at_ : Nat) ∧ Hid (Holds wc (hls vr rl * (chA c a K * (Ar a (lastS rA K bs).A * F)))) ∧ Hid (Sm w wc))
          case first =>
            clear W2 hW2
            by_cases hn0 : 0 < n
            · have n0i : (0 : Int) < (n : Int) := by omega
              obtain ⟨m, rfl⟩ : ∃ m, n = m + 1 := ⟨n - 1, by omega⟩
              have hml : m < K.l.length := by rw [HN.out]; omega
              obtain ⟨g, cap2, e1, -, hg, hrc, -⟩ := rowL_cell (HV.out.eqv (star_left_comm _ _ _)) hEnc_len m hml
              simp at e1
              obtain ⟨hao, -⟩ := e1
              have q0 := hrc 0 (by omega)
              have q1 := hrc 1 (by omega)
              have q2 := hrc 2 (by omega)
              have GL : K.l.getLast? = some K.l[m] := by
                rw [List.getLast?_eq_getElem?, HN.out]; simp [hml]
              obtain ⟨j, hj4, hj⟩ := KK.out.cls K.l[m] (List.getElem_mem _)
              obtain ⟨⟨h0, h1, h2⟩, hh⟩ : ∃ z, K.l[m] = z := ⟨_, rfl⟩
              rw [hh] at q0 q1 q2 GL hj
              have hj : h0 = (j : Int) := hj
              subst hj
              simp only [hEnc, Nat.add_zero, List.getElem?_cons_zero, List.getElem?_cons_succ] at q0 q1 q2
              obtain ⟨s, hs⟩ : ∃ q, szOf j = q := ⟨_, rfl⟩
              have hs64 := szOf_64 j hj4
              rw [hs] at hs64
              obtain ⟨d, hd⟩ := Int.eq_ofNat_of_zero_le (show 0 ≤ cg - lg by omega)
              have LS : Hid (lastS rA K bs = ⟨putH rA ((j : Int), h1, h2) (s - d) (bs.take (min sn d)), min sn d⟩) := by
                show _ = _
                unfold lastS
                rw [GL]
                simp only [HLG.out, HCG.out, hs, HSN.out, hd, Int.toNat_natCast]
              have SZQ : Hid (∀ (wq : World) k, Calls Try.prog 16 #[.int .i64 j] (wq.drewN k) fun e w' => e = .returned (.int .i64 s) ∧ w' = wq.drewN k) := fun wq k => by
                have := Slab.sizes_calls j (wq.drewN k)
                rw [hs] at this
                exact this.mono fun _ _ ⟨h, e⟩ => ⟨h, e.symm⟩
              have mi : ((m + 1 : Nat) : Int) - 1 = (m : Int) := by omega
              have m0 : (0 : Int) ≤ (m : Int) := by omega
              have m1 : (m : Int) < ((m + 1 : Nat) : Int) := by omega
              have m2 : (m : Int) < (m : Int) + 1 := by omega
              have sw : IntKind.i64.wrap (s - (cg - lg)) = s - (cg - lg) := IntWalk.i64_in _ (by omega)
              have HY := Lib.hid (H2.out.alloc (.cells #[.int .i64 j, .int .i64 h1, .int .i64 h2] 106))
              have SY := Lib.hid (S2.out.alloc (.cells #[.int .i64 j, .int .i64 h1, .int .i64 h2] 106))
              have w2l : ∀ k, k < w2.heap.size → k < w2.heap.size + 1 := fun k h => by omega
              subst hao
              clear hrc hh GL hs H2 S2 HV hn0 hml
              go_upto_region 15 with (fail)
              obtain ⟨q, hq⟩ : ∃ q, min sn d = q := ⟨_, rfl⟩
              rw [hq] at LS
              have q9 : q ≤ sn := by omega
              have qc : q ≤ sc := by omega
              have SR : Hid (∀ (wq : World) (G : Asr), Holds wq (G * F) → Src wq so q (bs.take q)) := by
                intro wq G h
                have hs := HB.out.src wq G h
                refine ⟨by rw [List.length_take, HB.out.len]; omega, fun hp => ?_⟩
                obtain ⟨b, o, e1, e2, e3⟩ := hs.cell (by omega)
                refine ⟨b, o, e1, e2, fun i hi => ?_⟩
                rw [e3 i (by omega)]
                simp [List.getElem?_take_of_lt hi]
              obtain ⟨ew, WR⟩ : ∃ ew : Int, Hid (∀ (wq : World) (G : Asr), Holds wq (Ar a rA * (G * F)) → Calls Try.prog 48 #[.pointer (some ⟨a, 0, none⟩), .agg #[.int .i64 j, .int .i64 h1, .int .i64 h2], .int .i64 (s - d), .slice so q sc] wq fun e w' => e = .returned (.int .i64 ew) ∧ Holds w' (Ar a (lastS rA K bs).A * (G * F)) ∧ Sm wq w') :=
                ⟨_, fun wq G h => by
                  rw [LS.out]
                  exact Slab.writeA_calls a rA (G * F) j h1 h2 (s - d) so q sc (bs.take q) wq h (SR.out wq (Ar a rA * G) (h.eqv (by ac_rfl))) (fun x hx => HB.out.b8 x (List.mem_of_mem_take hx))⟩
              have AT : Hid ((lastS rA K bs).at_ = q) := by show _ = _; rw [LS.out]
              obtain ⟨B9, hB9⟩ : ∃ z, w2.heap.size = z := ⟨_, rfl⟩
              obtain ⟨W9, hW9⟩ : ∃ z, w2.alloc (.cells #[.int .i64 j, .int .i64 h1, .int .i64 h2] 106) = z := ⟨_, rfl⟩
              rw [hB9] at HY ⊢
              rw [hW9] at HY SY ⊢
              obtain ⟨P, hP⟩ : ∃ z, pts B9 (.cells #[.int .i64 j, .int .i64 h1, .int .i64 h2] 106) * (hls vr rl * chA c a K) = z := ⟨_, rfl⟩
              have HX : Hid (Holds W9 (Ar a rA * (P * F))) := by show Holds _ _; rw [← hP]; exact HY.out.eqv (by ac_rfl)
              have PS : Hid (∀ (wq : World) (G : Asr), Holds wq (G * (P * F)) → wq.cell? ⟨c, 0, none⟩ = some (.pointer (some ⟨a, 0, none⟩)) ∧ wq.cell? ⟨c, 2, none⟩ = some (.int .i64 lg) ∧ wq.cell? ⟨c, 3, none⟩ = some (.int .i64 cg) ∧ c < wq.heap.size ∧ wq.cell? ⟨B9, 0, none⟩ = some (.int .i64 j) ∧ wq.cell? ⟨B9, 1, none⟩ = some (.int .i64 h1) ∧ wq.cell? ⟨B9, 2, none⟩ = some (.int .i64 h2) ∧ B9 < wq.heap.size) := by
                intro wq G h
                rw [← hP] at h
                have hc := h.eqv (by ac_rfl : _ = chA c a K * (G * (pts B9 (.cells #[.int .i64 j, .int .i64 h1, .int .i64 h2] 106) * (hls vr rl * F))))
                obtain ⟨v, hv⟩ := chA_seen hc
                have hz := h.eqv (by ac_rfl : _ = pts B9 (.cells #[.int .i64 j, .int .i64 h1, .int .i64 h2] 106) * (G * (hls vr rl * chA c a K * F)))
                have a0 := hz.cell 0
                have a1 := hz.cell 1
                have a2 := hz.cell 2
                simp at a0 a1 a2
                obtain ⟨r2, r3⟩ := XC.out wq _ hc
                exact ⟨hv.c0, r2, r3, hv.lt, a0, a1, a2, hz.lt⟩
              have BK : Hid (∀ (wq : World) (A4 : List (List ABlk)), Holds wq (Ar a A4 * (P * F)) → Holds wq (hls vr rl * (chA c a K * (Ar a A4 * F)))) := by
                intro wq A4 h
                rw [← hP] at h
                exact (h.eqv (by ac_rfl : _ = pts B9 (.cells #[.int .i64 j, .int .i64 h1, .int .i64 h2] 106) * (hls vr rl * (chA c a K * (Ar a A4 * F))))).right
              obtain ⟨p0, p2, p3, pl, p4, p5, p6, pb⟩ := PS.out W9 _ HX.out
              have PF : Hid (∀ (wq : World) (G : Asr), Holds wq (G * (P * F)) → wq.cell? ⟨c, 0, none⟩ = some (.pointer (some ⟨a, 0, none⟩)) ∧ wq.cell? ⟨B9, 0, none⟩ = some (.int .i64 j) ∧ wq.cell? ⟨B9, 1, none⟩ = some (.int .i64 h1) ∧ wq.cell? ⟨B9, 2, none⟩ = some (.int .i64 h2)) := by
                intro wq G h
                obtain ⟨z0, -, -, -, z4, z5, z6, -⟩ := PS.out wq G h
                exact ⟨z0, z4, z5, z6⟩
              have zz : W9.cell? ⟨c, 0, none⟩ = some (.pointer (some ⟨a, 0, none⟩)) ∧ W9.cell? ⟨B9, 0, none⟩ = some (.int .i64 j) ∧ W9.cell? ⟨B9, 1, none⟩ = some (.int .i64 h1) ∧ W9.cell? ⟨B9, 2, none⟩ = some (.int .i64 h2) := ⟨p0, p4, p5, p6⟩
              clear SR LS hP hW9 hB9 HY y2 y3 XC
              go_wp2_with fail
              go_quiet ((go_at_call 16; exact Calls.quiet_of_same (SZQ.out _ _)))
              by_cases hmn : d < sn
              rotate_left
              · obtain rfl : q = sn := by omega
                clear hq
                go_wp2_with fail
                go_quiet (fail)
                go_upto_region 17 with (fail)
                go_region_held3 (fun w' => w'.cell? ⟨c, 0, none⟩ = some (.pointer (some ⟨a, 0, none⟩)) ∧ w'.cell? ⟨B9, 0, none⟩ = some (.int .i64 j) ∧ w'.cell? ⟨B9, 1, none⟩ = some (.int .i64 h1) ∧ w'.cell? ⟨B9, 2, none⟩ = some (.int .i64 h2)) (first | exact x2 | exact zz | go_keep) (first | (go_at_call 48; refine (WR.out _ P ?_).mono ?_; (exact HX.out); rintro e w3 ⟨rfl, h2', s2⟩; have x2 := PF.out w3 _ h2'; have H3 := Lib.hid (BK.out w3 _ h2'); have S3 := Lib.hid ((SY.out.drewN _).trans s2); clear h2' s2))
                go_wp2_with fail
                go_meet
                case rel => exact ⟨by rw [AT.out], H3.out, S3.out⟩
              · obtain rfl : d = q := by omega
                have qi : (d : Int) ≤ (sc : Int) := by omega
                have q0 : (0 : Int) ≤ (d : Int) := by omega
                clear hq
                go_wp2_with fail
                go_quiet (fail)
                go_upto_region 17 with (fail)
                go_region_held3 (fun w' => w'.cell? ⟨c, 0, none⟩ = some (.pointer (some ⟨a, 0, none⟩)) ∧ w'.cell? ⟨B9, 0, none⟩ = some (.int .i64 j) ∧ w'.cell? ⟨B9, 1, none⟩ = some (.int .i64 h1) ∧ w'.cell? ⟨B9, 2, none⟩ = some (.int .i64 h2)) (first | exact x2 | exact zz | go_keep) (first | (go_at_call 48; refine (WR.out _ P ?_).mono ?_; (exact HX.out); rintro e w3 ⟨rfl, h2', s2⟩; have x2 := PF.out w3 _ h2'; have H3 := Lib.hid (BK.out w3 _ h2'); have S3 := Lib.hid ((SY.out.drewN _).trans s2); clear h2' s2))
                go_wp2_with fail
                go_meet
                case rel => exact ⟨by rw [AT.out], H3.out, S3.out⟩
            · have n0i : ¬ (0 : Int) < (n : Int) := by omega
              have LS : Hid (lastS rA K bs = ⟨rA, 0⟩) := by
                show _ = _
                unfold lastS
                have : K.l = [] := List.eq_nil_of_length_eq_zero (by rw [HN.out]; omega)
                rw [this]; rfl
              clear HV
              go_wp2_with fail
              go_meet
              case rel => exact ⟨by rw [LS.out]; rfl, by rw [LS.out]; exact H2.out, S2.out⟩
          case rest =>
            obtain ⟨rfl, H4, S4⟩ := hcut
            obtain ⟨ro, rcap, e1, -⟩ := rowA_slice H4.out
            subst e1
            obtain ⟨L0, hL0⟩ : ∃ z, lastS rA K bs = z := ⟨_, rfl⟩
            rw [hL0] at H4 RS2 ⊢
            have L9 : L0.at_ ≤ sn := by
              rw [← hL0]; unfold lastS; rw [← HSN.out]
              split
              · exact Nat.zero_le _
              · exact Nat.min_le_left _ _
            obtain ⟨rn, hrn⟩ : ∃ z, rl.length = z := ⟨_, rfl⟩
            have r9 : rn ≤ sn := by rw [← hrn]; exact RB.out
            have RN := Lib.hid hrn
            rw [hrn] at H4 ⊢
            clear hL0 hrn H2 S2 HV c1 hcl cl y2 y3
            go_wp2_with fail
            go_loopw [8, 107] (fun x y wl => ∃ (p : Nat) (st : Fs), p ≤ rn ∧ x = .int .i64 (st.at_ : Nat) ∧ y = .int .i64 p ∧ st.at_ ≤ sn ∧ Hid (fillL bs L0 (rl.take p) = st) ∧ Hid (Holds wl (hls (.slice ro rn rcap) rl * (chA c a { K with l := K.l ++ rl.take p, charge := K.charge + sizes (rl.take p) } * (Ar a st.A * F)))) ∧ Hid (Sm w wl)) (fun _ y _ => rn - (intOf y).toNat)
            case atStart => exact ⟨0, L0, Nat.zero_le _, rfl, rfl, L9, rfl, (show Holds _ _ by rw [(show ({ K with l := K.l ++ rl.take 0, charge := K.charge + sizes (rl.take 0) } : Ch) = K by cases K; simp [sizes])]; exact H4.out), S4.out⟩
            case round =>
              clear H4 S4 L9
              obtain ⟨p, st, hp, rfl, rfl, t9, FL, H5, S5⟩ := hrel
              by_cases hpn : p < rn
              · have hpl : p < rl.length := by rw [RN.out]; exact hpn
                obtain ⟨g, cap2, e1, -, hg, hrc, -⟩ := rowL_cell H5.out hEnc_len p hpl
                simp at e1
                obtain ⟨hro, -⟩ := e1
                have q0 := hrc 0 (by omega)
                have q1 := hrc 1 (by omega)
                have q2 := hrc 2 (by omega)
                obtain ⟨j, hj4, hj⟩ := RC.out rl[p] (List.getElem_mem _)
                have FN : Hid (fillL bs L0 (rl.take (p + 1)) = fillS bs st rl[p]) := by
                  show _ = _
                  rw [List.take_succ_eq_append_getElem hpl]
                  have := FL.out
                  unfold fillL at this ⊢
                  rw [List.foldl_append, this]; rfl
                have TN : Hid (rl.take (p + 1) = rl.take p ++ [rl[p]]) := List.take_succ_eq_append_getElem hpl
                obtain ⟨⟨h0, h1, h2⟩, hh⟩ : ∃ z, rl[p] = z := ⟨_, rfl⟩
                rw [hh] at q0 q1 q2 hj FN TN
                have hj : h0 = (j : Int) := hj
                subst hj
                simp only [hEnc, Nat.add_zero, List.getElem?_cons_zero, List.getElem?_cons_succ] at q0 q1 q2
                obtain ⟨s0, hs⟩ : ∃ q, szOf j = q := ⟨_, rfl⟩
                have hs64 := szOf_64 j hj4
                rw [hs] at hs64
                obtain ⟨z, rfl⟩ := Int.eq_ofNat_of_zero_le (show 0 ≤ s0 by omega)
                have SZ := Lib.hid (fun w => hs ▸ Slab.sizes_calls j w)
                have HS9 := Lib.hid hs
                obtain ⟨A5, t⟩ := st
                simp only at t9 ⊢
                obtain ⟨q, hq⟩ : ∃ q, min sn (t + z) = q := ⟨_, rfl⟩
                have FN2 : Hid (fillL bs L0 (rl.take (p + 1)) = ⟨putH A5 ((j : Int), h1, h2) 0 ((bs.drop t).take (q - t)), q⟩) := by
                  show _ = _
                  rw [FN.out]
                  unfold fillS
                  simp only [hs, HSN.out, Int.toNat_natCast, hq]
                have q9 : q ≤ sn := by omega
                have qt : t ≤ q := by omega
                have qc : q ≤ sc := by omega
                have j0 : (0 : Int) ≤ (p : Int) := by omega
                have j1 : (p : Int) < (rn : Int) := by omega
                have tw : IntKind.i64.wrap ((t : Int) + (z : Int)) = (t : Int) + (z : Int) := IntWalk.i64_in _ (by omega)
                have sp : 0 < sn := by omega
                obtain ⟨b, o, rfl, -⟩ := (HB.out.src wr _ (H5.out.eqv (by ac_rfl : _ = hls (.slice ro rn rcap) rl * (chA c a { K with l := K.l ++ rl.take p, charge := K.charge + sizes (rl.take p) } * Ar a A5) * F))).cell sp
                have SR : Hid (∀ (wq : World) (G : Asr), Holds wq (G * F) → Src wq (some ⟨b, o + t, none⟩) (q - t) ((bs.drop t).take (q - t))) := by
                  intro wq G h
                  have hs := HB.out.src wq G h
                  refine ⟨by rw [List.length_take, List.length_drop, HB.out.len]; omega, fun hp => ?_⟩
                  obtain ⟨b', o', e1, e2, e3⟩ := hs.cell sp
                  simp only [Option.some.injEq, Addr.mk.injEq] at e1
                  obtain ⟨rfl, rfl, -⟩ := e1
                  refine ⟨_, _, rfl, e2, fun i hi => ?_⟩
                  rw [Nat.add_assoc, e3 (t + i) (by omega)]
                  simp [List.getElem?_take_of_lt hi, List.getElem?_drop]
                obtain ⟨ew, WR⟩ : ∃ ew : Int, Hid (∀ (wq : World) (G : Asr), Holds wq (Ar a A5 * (G * F)) → Calls Try.prog 48 #[.pointer (some ⟨a, 0, none⟩), .agg #[.int .i64 j, .int .i64 h1, .int .i64 h2], .int .i64 0, .slice (some ⟨b, o + t, none⟩) (q - t) (sc - t)] wq fun e w' => e = .returned (.int .i64 ew) ∧ Holds w' (Ar a (putH A5 ((j : Int), h1, h2) 0 ((bs.drop t).take (q - t))) * (G * F)) ∧ Sm wq w') :=
                  ⟨_, fun wq G h => Slab.writeA_calls a A5 (G * F) j h1 h2 0 (some ⟨b, o + t, none⟩) (q - t) (sc - t) ((bs.drop t).take (q - t)) wq h (SR.out wq (Ar a A5 * G) (h.eqv (by ac_rfl))) (fun x hx => HB.out.b8 x (List.mem_of_mem_drop (List.mem_of_mem_take hx)))⟩
                obtain ⟨Kp, hKp⟩ : ∃ y, ({ K with l := K.l ++ rl.take p, charge := K.charge + sizes (rl.take p) } : Ch) = y := ⟨_, rfl⟩
                rw [hKp] at H5
                have HKP := Lib.hid hKp
                have HY := Lib.hid (H5.out.alloc (.cells #[.int .i64 j, .int .i64 h1, .int .i64 h2] 106))
                have SY := Lib.hid (S5.out.alloc (.cells #[.int .i64 j, .int .i64 h1, .int .i64 h2] 106))
                subst hro
                clear hrc hh hs FN SR hKp
                go_upto_region 21 with (fail)
                obtain ⟨B9, hB9⟩ : ∃ z, wr.heap.size = z := ⟨_, rfl⟩
                obtain ⟨W9, hW9⟩ : ∃ z, wr.alloc (.cells #[.int .i64 j, .int .i64 h1, .int .i64 h2] 106) = z := ⟨_, rfl⟩
                rw [hB9] at HY ⊢
                rw [hW9] at HY SY ⊢
                obtain ⟨P, hP⟩ : ∃ y, pts B9 (.cells #[.int .i64 j, .int .i64 h1, .int .i64 h2] 106) * (hls (.slice (some ⟨g, 0, none⟩) rn rcap) rl * chA c a Kp) = y := ⟨_, rfl⟩
                have HX : Hid (Holds W9 (Ar a A5 * (P * F))) := by show Holds _ _; rw [← hP]; exact HY.out.eqv (by ac_rfl)
                have PF : Hid (∀ (wq : World) (G : Asr), Holds wq (G * (P * F)) → wq.cell? ⟨c, 0, none⟩ = some (.pointer (some ⟨a, 0, none⟩)) ∧ wq.cell? ⟨B9, 0, none⟩ = some (.int .i64 j) ∧ wq.cell? ⟨B9, 1, none⟩ = some (.int .i64 h1) ∧ wq.cell? ⟨B9, 2, none⟩ = some (.int .i64 h2)) := by
                  intro wq G h
                  rw [← hP] at h
                  have hc := h.eqv (by ac_rfl : _ = chA c a Kp * (G * (pts B9 (.cells #[.int .i64 j, .int .i64 h1, .int .i64 h2] 106) * (hls (.slice (some ⟨g, 0, none⟩) rn rcap) rl * F))))
                  obtain ⟨v, hv⟩ := chA_seen hc
                  have hz := h.eqv (by ac_rfl : _ = pts B9 (.cells #[.int .i64 j, .int .i64 h1, .int .i64 h2] 106) * (G * (hls (.slice (some ⟨g, 0, none⟩) rn rcap) rl * chA c a Kp * F)))
                  have a0 := hz.cell 0
                  have a1 := hz.cell 1
                  have a2 := hz.cell 2
                  simp at a0 a1 a2
                  exact ⟨hv.c0, a0, a1, a2⟩
                have BK : Hid (∀ (wq : World) (A4 : List (List ABlk)), Holds wq (Ar a A4 * (P * F)) → Holds wq (pts B9 (.cells #[.int .i64 j, .int .i64 h1, .int .i64 h2] 106) * (hls (.slice (some ⟨g, 0, none⟩) rn rcap) rl * (chA c a Kp * (Ar a A4 * F))))) := by
                  intro wq A4 h
                  rw [← hP] at h
                  exact h.eqv (by ac_rfl)
                have zz := PF.out W9 _ HX.out
                obtain ⟨z0, z1, z2, z3⟩ := zz
                have zz := PF.out W9 _ HX.out
                clear hP hW9 hB9 HY H5 S5
                go_wp2_with fail
                refine (SZ.out _).mono ?_
                rintro e w' ⟨rfl, rfl⟩
                have hmin : t + z < sn ∨ ¬ t + z < sn := by omega
                have qti : (t : Int) ≤ (q : Int) := by omega
                have qci : (q : Int) ≤ (sc : Int) := by omega
                have qsi : (q : Int) ≤ (sn : Int) := by omega
                have t0i : (0 : Int) ≤ (t : Int) := by omega
                go_upto_region 22 with (fail)
                go_cut [15] (fun x wc => x = .int .i64 q ∧ wc = W9)
                case first =>
                  rcases hmin with hmn | hmn
                  · have hz : (q : Int) = (t : Int) + (z : Int) := by omega
                    have HZ := Lib.hid hz
                    clear hz hq
                    go_wp2_with fail
                    go_meet
                    case rel => exact ⟨by rw [HZ.out], rfl⟩
                  · have hz : (q : Int) = (sn : Int) := by omega
                    have HZ := Lib.hid hz
                    clear hz hq
                    go_wp2_with fail
                    go_meet
                    case rel => exact ⟨by rw [HZ.out], rfl⟩
                case rest =>
                  obtain ⟨rfl, rfl⟩ := hcut
                  clear hq hmin
                  go_upto_region 23 with (fail)
                  go_cut [] (fun wd => Hid (Holds wd (pts B9 (.cells #[.int .i64 j, .int .i64 h1, .int .i64 h2] 106) * (hls (.slice (some ⟨g, 0, none⟩) rn rcap) rl * (chA c a Kp * (Ar a (putH A5 ((j : Int), h1, h2) 0 ((bs.drop t).take (q - t))) * F))))) ∧ Hid (Sm w wd))
                  case first =>
                    clear RS2 RN FL FN2 TN HKP q0 q1 q2
                    by_cases hst : sc = t
                    · have hqt : q - t = 0 := by omega
                      obtain ⟨ew0, WR0⟩ : ∃ ew0 : Int, Hid (∀ (wq : World) (G : Asr), Holds wq (Ar a A5 * (G * F)) → Calls Try.prog 48 #[.pointer (some ⟨a, 0, none⟩), .agg #[.int .i64 j, .int .i64 h1, .int .i64 h2], .int .i64 0, .slice (some ⟨b, o, none⟩) 0 0] wq fun e w' => e = .returned (.int .i64 ew0) ∧ Holds w' (Ar a (putH A5 ((j : Int), h1, h2) 0 ((bs.drop t).take (q - t))) * (G * F)) ∧ Sm wq w') :=
                        ⟨_, fun wq G h => by
                          rw [hqt, List.take_zero]
                          exact Slab.writeA_calls a A5 (G * F) j h1 h2 0 (some ⟨b, o, none⟩) 0 0 [] wq h ⟨rfl, fun h => absurd h (Nat.lt_irrefl _)⟩ (fun x hx => by cases hx)⟩
                      have hq2 : q = t := by omega
                      have hs2 : sn = t := by omega
                      clear WR hqt
                      subst hst
                      subst hq2
                      subst hs2
                      go_region_held3 (fun w' => w'.cell? ⟨c, 0, none⟩ = some (.pointer (some ⟨a, 0, none⟩)) ∧ w'.cell? ⟨B9, 0, none⟩ = some (.int .i64 j) ∧ w'.cell? ⟨B9, 1, none⟩ = some (.int .i64 h1) ∧ w'.cell? ⟨B9, 2, none⟩ = some (.int .i64 h2)) (first | exact x2 | exact zz | go_keep) (first | (go_at_call 48; refine (WR0.out _ P ?_).mono ?_; (exact HX.out); rintro e w3 ⟨rfl, h2', s2⟩; have x2 := PF.out w3 _ h2'; have H6 := Lib.hid (BK.out w3 _ h2'); have S6 := Lib.hid (SY.out.drew.trans s2); clear h2' s2))
                      go_wp2_with fail
                      go_meet
                      case rel => exact ⟨H6.out, S6.out⟩
                    · have hst2 : ¬ t = sc := fun h => hst h.symm
                      go_region_held3 (fun w' => w'.cell? ⟨c, 0, none⟩ = some (.pointer (some ⟨a, 0, none⟩)) ∧ w'.cell? ⟨B9, 0, none⟩ = some (.int .i64 j) ∧ w'.cell? ⟨B9, 1, none⟩ = some (.int .i64 h1) ∧ w'.cell? ⟨B9, 2, none⟩ = some (.int .i64 h2)) (first | exact x2 | exact zz | go_keep) (first | (go_at_call 48; refine (WR.out _ P ?_).mono ?_; (exact HX.out); rintro e w3 ⟨rfl, h2', s2⟩; have x2 := PF.out w3 _ h2'; have H6 := Lib.hid (BK.out w3 _ h2'); have S6 := Lib.hid (SY.out.drew.trans s2); clear h2' s2))
                      go_wp2_with fail
                      go_meet
                      case rel => exact ⟨H6.out, S6.out⟩
                  case rest =>
                    obtain ⟨H6, S6⟩ := hcut
                    clear WR SY HX PF BK zz z0 z1 z2 z3
                    obtain ⟨v8, h8⟩ := ch_open (H6.out.eqv (by ac_rfl : _ = chA c a Kp * (pts B9 (.cells #[.int .i64 j, .int .i64 h1, .int .i64 h2] 106) * (hls (.slice (some ⟨g, 0, none⟩) rn rcap) rl * (Ar a (putH A5 ((j : Int), h1, h2) 0 ((bs.drop t).take (q - t))) * F)))))
                    obtain ⟨ao8, cap8, e8, -⟩ := rowA_slice (h8.eqv (star_left_comm _ _ _))
                    subst e8
                    have cs8 := ch_seen h8
                    have y0 := cs8.c0
                    have y1 := cs8.c1
                    have y3 := cs8.c3
                    have yl := cs8.lt
                    have yf := h8.frozen
                    have yf1 := yf 1
                    have yf3 := yf 3
                    have hz8 := h8.eqv (by ac_rfl : _ = pts B9 (.cells #[.int .i64 j, .int .i64 h1, .int .i64 h2] 106) * (chH c a (.slice ao8 Kp.l.length cap8) Kp * (hls (.slice ao8 Kp.l.length cap8) Kp.l * (hls (.slice (some ⟨g, 0, none⟩) rn rcap) rl * (Ar a (putH A5 ((j : Int), h1, h2) 0 ((bs.drop t).take (q - t))) * F)))))
                    have b0 := hz8.cell 0
                    have b1 := hz8.cell 1
                    have b2 := hz8.cell 2
                    have bl := hz8.lt
                    simp at b0 b1 b2
                    have KN : Hid (Kp.l.length = n + p ∧ Kp.charge = cg + sizes (rl.take p)) := by
                      show _ ∧ _
                      rw [← HKP.out]
                      refine ⟨?_, by simp [HCG.out]⟩
                      show (K.l ++ rl.take p).length = _
                      rw [List.length_append, HN.out, List.length_take, RN.out]; omega
                    have HA := Lib.hid ((h8.eqv (star_left_comm _ _ _)).alloc (.cells #[.int .i64 j, .int .i64 h1, .int .i64 h2] 106)).right
                    have B1 : Hid (Kp.l.length + 1 ≤ maxLen) := by show _ ≤ _; have := KN.out.1; unfold maxLen; omega
                    have B2 : Hid ((Kp.l.length + 1) * 24 ≤ 140737488355328) := by show _ ≤ _; have := KN.out.1; omega
                    have SL := sizes_le (rl.take p) (fun h hh => RC.out h (List.mem_of_mem_take hh))
                    have pl9 : (rl.take p).length ≤ 1100000 := by rw [List.length_take, RN.out]; omega
                    obtain ⟨kc, hkc⟩ : ∃ y, Kp.charge = y := ⟨_, rfl⟩
                    have kw : IntKind.i64.wrap (kc + (z : Int)) = kc + (z : Int) := IntWalk.i64_in _ (by have := KN.out.2; omega)
                    rw [hkc] at y3
                    have HKC := Lib.hid hkc
                    have FIN : Hid (∀ (wq : World) (ao2 : Option Addr) (cap2 : Nat), Holds wq (pts c (.cells #[.pointer (some ⟨a, 0, none⟩), .slice ao2 (Kp.l.length + 1) cap2, .int .i64 Kp.long, .int .i64 (kc + (z : Int)), .bool Kp.shared, .bool Kp.freed] 102 (0, 0)) * (rowA 106 3 (.slice ao2 (Kp.l.length + 1) cap2) (Kp.l.length + 1) (Kp.l.flatMap hEnc ++ [.int .i64 j, .int .i64 h1, .int .i64 h2]) * (pts B9 (.cells #[.int .i64 j, .int .i64 h1, .int .i64 h2] 106) * (hls (.slice (some ⟨g, 0, none⟩) rn rcap) rl * (Ar a (putH A5 ((j : Int), h1, h2) 0 ((bs.drop t).take (q - t))) * F))))) →
                        Holds wq (hls (.slice (some ⟨g, 0, none⟩) rn rcap) rl * (chA c a { K with l := K.l ++ rl.take (p + 1), charge := K.charge + sizes (rl.take (p + 1)) } * (Ar a (putH A5 ((j : Int), h1, h2) 0 ((bs.drop t).take (q - t))) * F)))) := by
                      intro wq ao2 cap2 h
                      have eK : ({ K with l := K.l ++ rl.take (p + 1), charge := K.charge + sizes (rl.take (p + 1)) } : Ch) = { Kp with l := Kp.l ++ [((j : Int), h1, h2)], charge := kc + (z : Int) } := by
                        have e1 := HKC.out
                        rw [← HKP.out] at e1 ⊢
                        simp only at e1
                        rw [TN.out, ← e1]
                        simp only [sizes, List.map_append, List.sum_append, List.map_cons, List.map_nil, List.sum_cons, List.sum_nil, HS9.out, List.append_assoc]
                        congr 1
                        omega
                      rw [eK]
                      have g1 := (h.eqv (star_left_comm _ _ _))
                      have g2 := rowL_snoc (x := ((j : Int), h1, h2)) (enc := hEnc) g1 rfl
                      have g3 := (g2.eqv (star_left_comm _ _ _))
                      have g4 : Holds wq (chH c a (.slice ao2 (Kp.l.length + 1) cap2) { Kp with l := Kp.l ++ [((j : Int), h1, h2)], charge := kc + (z : Int) } * (hls (.slice ao2 (Kp.l.length + 1) cap2) (Kp.l ++ [((j : Int), h1, h2)]) * (pts B9 (.cells #[.int .i64 j, .int .i64 h1, .int .i64 h2] 106) * (hls (.slice (some ⟨g, 0, none⟩) rn rcap) rl * (Ar a (putH A5 ((j : Int), h1, h2) 0 ((bs.drop t).take (q - t))) * F))))) := g3
                      exact ((ch_shut g4).eqv (by ac_rfl : _ = pts B9 (.cells #[.int .i64 j, .int .i64 h1, .int .i64 h2] 106) * (hls (.slice (some ⟨g, 0, none⟩) rn rcap) rl * (chA c a { Kp with l := Kp.l ++ [((j : Int), h1, h2)], charge := kc + (z : Int) } * (Ar a (putH A5 ((j : Int), h1, h2) 0 ((bs.drop t).take (q - t))) * F))))).right
                    clear SL pl9 hkc hz8 h8 cs8 yf H6
                    go_upto_region 24 with (fail)
                    go_region_law ((refine step_append_sep rfl _ _ 100 rfl 106 (.agg #[.int .i64 0, .int .i64 0, .int .i64 0]) 3 24 Try.underlying100 infoH rfl (by rfl) HA.out ⟨wc.heap.size, 0, none⟩ 1 1 [.int .i64 j, .int .i64 h1, .int .i64 h2] (by rfl) rfl (cells_new wc #[.int .i64 j, .int .i64 h1, .int .i64 h2] 106 _ rfl) (by simp [Value.oneCell']) B1.out B2.out ?_; intro va wa ha sa ea; obtain ⟨ao2, cap2, hva, -⟩ := rowA_slice ha; subst hva; have hc9 := ha.eqv (star_left_comm _ _ _); have xs := ch_seen hc9; have x0 := xs.c0; have x1 := xs.c1; have x3 := xs.c3; rw [HKC.out] at x3; have xl := xs.lt; have xf1 := hc9.frozen 1; have xf3 := hc9.frozen 3))
                    all_goals
                      have h9 := (Holds.store hc9 1 (.slice ao2 (Kp.l.length + 1) cap2)).store 3 (.int .i64 (kc + z))
                      have h10 := (Holds.store hc9 3 (.int .i64 (kc + z))).store 1 (.slice ao2 (Kp.l.length + 1) cap2)
                      have H9 := Lib.hid h9
                      have H10 := Lib.hid h10
                      have S9 := Lib.hid (((S6.out.alloc (.cells #[.int .i64 j, .int .i64 h1, .int .i64 h2] 106)).drew.trans sa))
                      clear h9 h10 ha hc9 sa ea xs
                      go_wp2_with fail
                      go_roundw
                      case rel =>
                        refine ⟨p + 1, ⟨putH A5 ((j : Int), h1, h2) 0 ((bs.drop t).take (q - t)), q⟩, by omega, rfl, by go_num, q9, FN2.out, ?_, ?_⟩
                        · first | exact FIN.out _ _ _ H9.out | exact FIN.out _ _ _ H10.out
                        · exact (S9.out.setCell _ _).setCell _ _
                      case measure => simp [intOf]; omega
              · obtain rfl : rn = p := by omega
                have ET : rl.take rn = rl := List.take_of_length_le (by rw [RN.out]; exact Nat.le_refl _)
                rw [ET] at FL H5
                have FL2 := Lib.hid FL.out
                obtain ⟨vk, hvk⟩ := ch_open (H5.out.right)
                have cs := ch_seen hvk
                have y2 : wr.cell? ⟨c, 2, none⟩ = some (.int .i64 K.long) := cs.c2
                have yl := cs.lt
                have yf := hvk.frozen 2
                have hst := Holds.store hvk 2 (.int .i64 (lg + (sn : Int)))
                have HST := Lib.hid hst
                have lw4 : IntKind.i64.wrap (lg + (sn : Int)) = lg + (sn : Int) := IntWalk.i64_in _ (by omega)
                rw [HLG.out] at y2
                clear cs hvk hst ET FL
                go_wp2_with fail
                go_ret
                refine ⟨by rw [RS2.out]; try rfl, ?_, ?_⟩
                · rw [RS2.out, FL2.out]
                  exact ch_shut (v := vk) (K := { K with l := K.l ++ rl, charge := K.charge + sizes rl, long := K.long + sn }) (by rw [HLG.out]; exact HST.out)
                · first | exact S5.out.setCell _ _ | exact (S5.out.drew.setCell _ _) | exact S5.out.drewN.setCell _ _
#print axioms append_calls
end Go.Proofs.Ytefcinifaaablaa.Chain
