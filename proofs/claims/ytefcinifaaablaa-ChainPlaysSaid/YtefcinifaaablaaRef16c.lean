/-
  Layer 16: the document's Append.
-/
import Derived.Test.YtefcinifaaablaaRef16b
namespace Go.Proofs.Ytefcinifaaablaa.Chain
open Go.RowKit Go.Sep
open Go.Proofs.Ytefcinifaaablaa.Slab (szOf szN szN_val clsFor ABlk allocA dropA holdA writeA readA Took u8s Src)
set_option maxRecDepth 100000
set_option linter.unusedVariables false
set_option linter.unusedSimpArgs false

structure RApp where
  A : List (List ABlk)
  R : RCh
  e : Int
def rappA (A : List (List ABlk)) (R : RCh) (bs : List Int) : RApp :=
  if R.freed then ⟨A, R, 16⟩ else if R.shared then ⟨A, R, 2⟩ else if 1048576 - (R.bytes.length : Int) < bs.length then ⟨A, R, 3⟩ else
  let r := roomA A (bs.length - (sizes R.l - R.bytes.length))
  if r.e = 0 then ⟨r.A, { R with l := R.l ++ r.l, bytes := R.bytes ++ bs }, 0⟩ else ⟨r.A, R, 14⟩
def RAppC (X : Nat → Int) (r y : Nat) (t : RApp) (F : Asr) (w : World) (e : Ending) (w' : World) : Prop :=
  e = .returned (.int .i64 t.e) ∧ Holds w' (rcA r y t.R * (RAr X y t.A * F)) ∧ Sm w w'
theorem rowL_cut {α : Type _} {T : TypeId} {sz : Nat} {enc : α → List Value} (he : ∀ x, (enc x).length = sz) {w : World} {ao : Option Addr} {n cap : Nat} {l : List α} {F : Asr} (h : Holds w (rowL T sz enc (.slice ao n cap) l * F)) (k : Nat) (hk : k ≤ l.length) : Holds w (rowL T sz enc (.slice ao k cap) (l.take k) * F) := by
  obtain ⟨hx, hc⟩ := rowA_cases h
  have hl : (l.take k).length = k := by rw [List.length_take]; omega
  rcases hc with ⟨e1, e2, hF⟩ | ⟨g, cp, cur, e1, h1, h2, h3, h4, h5⟩
  · have hk0 : k = 0 := by omega
    subst hk0
    simp only [Value.slice.injEq] at e1
    obtain ⟨rfl, -, rfl⟩ := e1
    exact rowL_nil hF
  · simp only [Value.slice.injEq] at e1
    obtain ⟨rfl, -, rfl⟩ := e1
    unfold rowL
    rw [hl]
    refine rowA_mk' h5 (by omega) h2 h3 ?_
    have e : (l.take k).flatMap enc = (l.flatMap enc).take (k * sz) := by
      have e0 : l.flatMap enc = (l.take k).flatMap enc ++ (l.drop k).flatMap enc := by rw [← List.flatMap_append, List.take_append_drop]
      rw [e0, List.take_left']
      have := flat_size (l := l.take k) he
      simp only [flat, List.size_toArray] at this
      rw [this, hl]
    rw [e, ← h4, List.take_take]
    congr 1
    exact (Nat.min_eq_left (Nat.mul_le_mul_right _ hk)).symm
set_option maxHeartbeats 8000000 in
theorem rappend_calls (X : Nat → Int) (r y : Nat) (R : RCh) (A : List (List ABlk)) (F : Asr) (ad : Addr) (sc : Nat) (bs : List Int) (w : World) (h9 : R.l.length ≤ 2000) (hc : ∀ h ∈ R.l, ∃ j : Nat, j < 4 ∧ h.1 = j) (hb9 : R.bytes.length ≤ 1048576)
    (hB : ∀ (w : World) (G : Asr), Holds w (G * F) → Src w (some ad) bs.length bs) (hsc : bs.length ≤ sc) (hw : Holds w (rcA r y R * (RAr X y A * F))) :
    Calls Try.prog 19 #[.pointer (some ⟨r, 0, none⟩), .slice (some ad) bs.length sc] w (RAppC X r y (rappA A R bs) F w) := by
  have HW := Lib.hid hw
  have HB := Lib.hid hB
  have HCL := Lib.hid hc
  obtain ⟨v, vb, h0⟩ := rc_open hw
  obtain ⟨ao, cap, e1, hcap⟩ := rowA_slice (h0.eqv (star_left_comm _ _ _))
  obtain ⟨bo, bcap, e2, hbc⟩ := rowA_slice (h0.eqv (by unfold rbs; ac_rfl : _ = rowA 5 1 vb R.bytes.length (u8s R.bytes) * (rcH r y v vb R * (rls v R.l * (RAr X y A * F)))))
  subst e1
  subst e2
  have cs := rc_seen h0
  have x1 := cs.c1
  have x2 := cs.c2
  have x3 := cs.c3
  have x4 := cs.c4
  have xl := cs.lt
  obtain ⟨m, hm⟩ : ∃ q, R.l.length = q := ⟨_, rfl⟩
  obtain ⟨k, hk⟩ : ∃ q, R.bytes.length = q := ⟨_, rfl⟩
  obtain ⟨sn, hsn⟩ : ∃ q, bs.length = q := ⟨_, rfl⟩
  have SL := sizes_le R.l hc
  rw [hm] at h9 x1 hcap SL
  rw [hk] at hb9 x2 hbc
  have HM := Lib.hid hm
  have HK := Lib.hid hk
  have HSN := Lib.hid hsn
  clear hw h0 cs hB hc
  cases hfr : R.freed with
  | true =>
    have RS : Hid (rappA A R bs = ⟨A, R, 16⟩) := by show _ = _; unfold rappA; rw [if_pos hfr]
    rw [hfr] at x4
    rw [hsn] at hsc ⊢
    clear hfr hm hk hsn
    go_enter Try.func19, Try.ntmps19
    go_wp2_with fail
    go_ret
    exact ⟨by rw [RS.out]; try rfl, by rw [RS.out]; exact HW.out, Sm.refl w⟩
  | false =>
    rw [hfr] at x4
    cases hsh : R.shared with
    | true =>
      have RS : Hid (rappA A R bs = ⟨A, R, 2⟩) := by show _ = _; unfold rappA; rw [if_neg (by rw [hfr]; simp), if_pos hsh]
      rw [hsh] at x3
      rw [hsn] at hsc ⊢
      clear hfr hsh hm hk hsn
      go_enter Try.func19, Try.ntmps19
      go_wp2_with fail
      go_ret
      exact ⟨by rw [RS.out]; try rfl, by rw [RS.out]; exact HW.out, Sm.refl w⟩
    | false =>
      rw [hsh] at x3
      by_cases hbig : 1048576 - (k : Int) < sn
      · have RS : Hid (rappA A R bs = ⟨A, R, 3⟩) := by show _ = _; unfold rappA; rw [if_neg (by rw [hfr]; simp), if_neg (by rw [hsh]; simp), if_pos (by rw [hk, hsn]; exact hbig)]
        have d1 : decide (1048576 - (k : Int) < (sn : Int)) = true := by simpa using hbig
        have kw : IntKind.i64.wrap (1048576 - (k : Int)) = 1048576 - (k : Int) := IntWalk.i64_in _ (by omega)
        rw [hsn] at hsc ⊢
        clear hfr hsh hm hk hsn hbig
        go_enter Try.func19, Try.ntmps19
        go_wp2_with fail
        go_ret
        exact ⟨by rw [RS.out]; try rfl, by rw [RS.out]; exact HW.out, Sm.refl w⟩
      · have RS : Hid (rappA A R bs = (let t := roomA A ((sn : Int) - (sizes R.l - k)); if t.e = 0 then (⟨t.A, { R with l := R.l ++ t.l, bytes := R.bytes ++ bs }, 0⟩ : RApp) else ⟨t.A, R, 14⟩)) := by
          show _ = _
          unfold rappA
          rw [if_neg (by rw [hfr]; simp), if_neg (by rw [hsh]; simp), if_neg (by rw [hk, hsn]; exact hbig), hk, hsn]
        have CH := Lib.hid (rcharge_calls r y R (RAr X y A * F) w.drew (by omega) HCL.out HW.out)
        have d1 : decide (1048576 - (k : Int) < (sn : Int)) = false := by simpa using hbig
        have kw : IntKind.i64.wrap (1048576 - (k : Int)) = 1048576 - (k : Int) := IntWalk.i64_in _ (by omega)
        have CQ : Hid (∀ wq, Below w.heap.size w wq → wq.cell? ⟨r, 2, none⟩ = some (.slice bo k bcap)) := by
          intro wq hq
          exact (hq.cell (p := ⟨r, 2, none⟩) xl).trans x2
        obtain ⟨sz, hsz⟩ : ∃ q, sizes R.l = q := ⟨_, rfl⟩
        rw [hsz] at RS CH SL
        have kw2 : IntKind.i64.wrap (sz - (k : Int)) = sz - (k : Int) := IntWalk.i64_in _ (by omega)
        have kw3 : IntKind.i64.wrap ((sn : Int) - (sz - (k : Int))) = (sn : Int) - (sz - (k : Int)) := IntWalk.i64_in _ (by omega)
        rw [hsn] at hsc ⊢
        clear hfr hsh hm hk hsn
        go_enter Try.func19, Try.ntmps19
        go_upto_region 8 with (fail)
        have c0 := CQ.out w (Below.refl _ _)
        go_region_held3 (fun w' => w'.cell? ⟨r, 2, none⟩ = some (.slice bo k bcap)) (first | exact z2 | exact c0 | go_keep) (first | (go_at_call 24; refine (CH.out).mono ?_; rintro e w2 ⟨rfl, hb⟩; have B2 := Lib.hid ((Below.refl w.heap.size w).drew.trans hb); have z2 := CQ.out w2 B2.out; clear hb))
        have H1 := Lib.hid (HW.out.grow B2.out)
        have S1 : Hid (Sm w w2) := .of_below B2.out
        obtain ⟨n0, hn0⟩ : ∃ q, (sn : Int) - (sz - (k : Int)) = q := ⟨_, rfl⟩
        rw [hn0] at RS ⊢
        have b9 : n0 ≤ 1048576 := by omega
        have b0 : -10000000 ≤ n0 := by omega
        clear CH CQ c0 z2 x1 x2 x3 x4 HW B2 kw kw2 kw3 d1 hn0 hsz SL
        go_wp2_with fail
        go_loopw [6] (fun x wl => ∃ (f : Nat) (A' : List (List ABlk)) (n' : Int) (l : List Hd), x = .int .i64 n' ∧ n' ≤ 1048576 ∧ -10000000 ≤ n' ∧ n' ≤ f ∧ Hid (l.length * 64 + n' ≤ 1048576 ∧ l.length ≤ 16400) ∧ Hid (roomF f A' n' l = roomA A n0) ∧ Hid (Holds wl (rcA r y { R with l := R.l ++ l } * (RAr X y A' * F))) ∧ Hid (Sm w wl)) (fun x _ => (intOf x).toNat)
        case atStart => exact ⟨n0.toNat, A, n0, [], rfl, b9, b0, by omega, ⟨by simpa using b9, by simp⟩, rfl, (show Holds _ _ by rw [show ({ R with l := R.l ++ [] } : RCh) = R by cases R; simp]; exact H1.out), S1.out⟩
        case round =>
          clear H1 S1
          obtain ⟨f, A', n', l, rfl, hb9, hb0, hf, LB, RF, H3, S3⟩ := hrel
          by_cases hpos : 0 < n'
          · have d0 : decide (0 < n') = true := by simpa using hpos
            obtain ⟨f, rfl⟩ : ∃ g, f = g + 1 := ⟨f - 1, by omega⟩
            obtain ⟨M, hM⟩ : ∃ q, (R.l ++ l).length = q := ⟨_, rfl⟩
            have ml := LB.out.1
            have M9 : M ≤ 18500 := by rw [← hM, List.length_append, HM.out]; omega
            have HMM := Lib.hid hM
            have TK := Lib.hid (rtake_calls X r y { R with l := R.l ++ l } A' F n' wr (by show (R.l ++ l).length ≤ _; omega) H3.out)
            have TE := takeA_cls A' n'
            have RF2 : Hid ((if (takeA A' n').e = 0 then roomF f (takeA A' n').A (n' - szOf (takeA A' n').h.1) (l ++ [(takeA A' n').h]) else ⟨dropsA (takeA A' n').A l, [], (takeA A' n').e⟩) = roomA A n0) := by
              show _ = _
              have := RF.out
              simp only [roomF] at this
              rw [if_pos hpos] at this
              exact this
            obtain ⟨t, ht⟩ : ∃ q, takeA A' n' = q := ⟨_, rfl⟩
            rw [ht] at TK TE RF2
            obtain ⟨rA, ⟨r0, r1, r2⟩, re⟩ := t
            clear ht RF hM ml
            by_cases hre : re = 0
            · subst hre
              obtain ⟨c', hc4, hc'⟩ := TE rfl
              have hc' : r0 = (c' : Int) := hc'
              subst hc'
              have RF3 : Hid (roomF f rA (n' - szOf c') (l ++ [((c' : Int), r1, r2)]) = roomA A n0) := by have := RF2.out; rw [if_pos rfl] at this; exact this
              have TK2 : Hid (Calls Try.prog 51 #[.pointer (some ⟨r, 0, none⟩), .int .i64 n'] wr fun e w' => e = .returned (.bool true) ∧ Holds w' (rcA r y { R with l := R.l ++ (l ++ [((c' : Int), r1, r2)]) } * (RAr X y rA * F)) ∧ Sm wr w') := TK.out.mono fun e w' ⟨q1, q2, q3⟩ => ⟨q1, by simpa using q2, q3⟩
              obtain ⟨s, hs⟩ : ∃ q, szOf c' = q := ⟨_, rfl⟩
              have hs64 := szOf_64 c' hc4
              have SZ := Lib.hid (fun w => hs ▸ Ref15.sizes_calls c' w)
              rw [hs] at RF3 hs64
              have nw : IntKind.i64.wrap (n' - s) = n' - s := IntWalk.i64_in _ (by omega)
              have LB2 : Hid ((l ++ [((c' : Int), r1, r2)]).length * 64 + (n' - s) ≤ 1048576 ∧ (l ++ [((c' : Int), r1, r2)]).length ≤ 16400) := by
                have := LB.out
                show _ ∧ _
                rw [List.length_append, List.length_cons, List.length_nil]
                omega
              clear TK RF2 TE hs LB H3
              go_wp2_with fail
              refine (TK2.out).mono ?_
              rintro e w3 ⟨rfl, h3, s3⟩
              have H4 := Lib.hid h3
              have S4 := Lib.hid (S3.out.trans s3)
              obtain ⟨v3, vb3, h4⟩ := rc_open h3
              have hML : M < (R.l ++ (l ++ [((c' : Int), r1, r2)])).length := by rw [← List.append_assoc, List.length_append, HMM.out]; simp
              have hLen : (R.l ++ (l ++ [((c' : Int), r1, r2)])).length = M + 1 := by rw [← List.append_assoc, List.length_append, HMM.out]; simp
              have hAt : (R.l ++ (l ++ [((c' : Int), r1, r2)]))[M] = ((c' : Int), r1, r2) := by
                have e1 : R.l ++ (l ++ [((c' : Int), r1, r2)]) = (R.l ++ l) ++ [((c' : Int), r1, r2)] := by rw [List.append_assoc]
                simp only [e1]
                rw [List.getElem_append_right (by rw [HMM.out]; exact Nat.le_refl _)]
                simp
              obtain ⟨g, cap3, e3, -, -, hrc, -⟩ := rowL_cell (h4.eqv (star_left_comm _ _ _)) hEnc_len M hML
              rw [hLen] at e3
              have y0 := hrc 0 (by omega)
              simp only [hAt, hEnc, Nat.add_zero, List.getElem?_cons_zero] at y0
              have cs3 := rc_seen h4
              have y1 := cs3.c1
              have yl := cs3.lt
              rw [e3] at y1
              have yg := World.block_lt_of_cell? _ _ y0
              have FQ : Hid (∀ wq, Below w3.heap.size w3 wq → wq.cell? ⟨r, 1, none⟩ = some (.slice (some ⟨g, 0, none⟩) (M + 1) cap3) ∧ wq.cell? ⟨g, M * 3, none⟩ = some (.int .i64 c')) := fun wq hq => ⟨(hq.cell (p := ⟨r, 1, none⟩) yl).trans y1, (hq.cell (p := ⟨g, M * 3, none⟩) yg).trans y0⟩
              have zz := FQ.out w3 (Below.refl _ _)
              have mi : ((M + 1 : Nat) : Int) - 1 = (M : Int) := by omega
              have mi2 : ((M : Int) + 1) - 1 = (M : Int) := by omega
              have m0 : (0 : Int) ≤ (M : Int) := by omega
              have m1 : (M : Int) < (M : Int) + 1 := by omega
              have m2 : (M : Int) < ((M + 1 : Nat) : Int) := by omega
              have mw : IntKind.i64.wrap ((M : Int) + 1 - 1) = (M : Int) := by rw [show (M : Int) + 1 - 1 = M by omega]; exact IntWalk.i64_in _ (by omega)
              have mw2 : IntKind.i64.wrap (M : Int) = (M : Int) := IntWalk.i64_in _ (by omega)
              clear h3 s3 h4 hrc cs3 TK2 S3 e3 hAt hLen hML
              go_upto_region 17 with (fail)
              go_region_held3 (fun w' => w'.cell? ⟨r, 1, none⟩ = some (.slice (some ⟨g, 0, none⟩) (M + 1) cap3) ∧ w'.cell? ⟨g, M * 3, none⟩ = some (.int .i64 c')) (first | exact z2 | exact zz | go_keep) (first | (go_at_call 53; refine (SZ.out _).mono ?_; rintro e w4 ⟨rfl, hb⟩; have B4 := Lib.hid ((Below.refl w3.heap.size w3).drew.trans hb); have z2 := FQ.out w4 B4.out; clear hb))
              have H5 := Lib.hid (H4.out.grow B4.out)
              have S5 := Lib.hid (S4.out.grow B4.out)
              clear H4 S4 FQ zz y0 y1
              go_wp2_with fail
              go_roundw
              case rel => exact ⟨f, rA, n' - s, _, rfl, by omega, by omega, by omega, LB2.out, RF3.out, H5.out, S5.out⟩
              case measure => simp [intOf]; omega
            · have RF3 : Hid (roomA A n0 = ⟨dropsA rA l, [], re⟩) := by have := RF2.out; rw [if_neg hre] at this; exact this.symm
              have RS2 : Hid (rappA A R bs = ⟨dropsA rA l, R, 14⟩) := by
                show _ = _
                rw [RS.out, RF3.out]
                simp only
                rw [if_neg hre]
              have TK2 : Hid (Calls Try.prog 51 #[.pointer (some ⟨r, 0, none⟩), .int .i64 n'] wr fun e w' => e = .returned (.bool false) ∧ Holds w' (rcA r y { R with l := R.l ++ l } * (RAr X y rA * F)) ∧ Sm wr w') := TK.out.mono fun e w' ⟨q1, q2, q3⟩ => ⟨by rw [q1]; simp [hre], by simpa [hre] using q2, q3⟩
              obtain ⟨L, hL⟩ : ∃ q, l.length = q := ⟨_, rfl⟩
              have HL := Lib.hid hL
              have hML : M = m + L := by rw [← HMM.out, List.length_append, HM.out, hL]
              clear TK RF2 TE LB H3 RF3 hre hL
              go_wp2_with fail
              refine (TK2.out).mono ?_
              rintro e w3 ⟨rfl, h3, s3⟩
              have S4 := Lib.hid (S3.out.trans s3)
              obtain ⟨v3, vb3, h4⟩ := rc_open h3
              obtain ⟨ao3, cap3, e3, hcap3⟩ := rowA_slice (h4.eqv (star_left_comm _ _ _))
              subst e3
              have H4 : Hid (Holds w3 (rls (.slice ao3 M cap3) (R.l ++ l) * (rcH r y (.slice ao3 M cap3) vb3 { R with l := R.l ++ l } * (rbs vb3 R.bytes * (RAr X y rA * F))))) := by
                show Holds _ _
                have := h4.eqv (star_left_comm _ _ _)
                rw [HMM.out] at this
                exact this
              have hcap3 : M ≤ cap3 := by rw [← HMM.out]; exact hcap3
              clear h3 s3 h4 TK2 S3
              go_wp2_with fail
              go_loopw [7] (fun x wl => ∃ q : Nat, q ≤ L ∧ x = .int .i64 ((m + q : Nat) : Int) ∧ Hid (Holds wl (rls (.slice ao3 M cap3) (R.l ++ l) * (rcH r y (.slice ao3 M cap3) vb3 { R with l := R.l ++ l } * (rbs vb3 R.bytes * (RAr X y (dropsA rA (l.take q)) * F))))) ∧ Hid (Sm w wl)) (fun x _ => M - (intOf x).toNat)
              case atStart => exact ⟨0, Nat.zero_le _, rfl, H4.out, S4.out⟩
              case round =>
                clear H4 S4
                obtain ⟨q, hq, rfl, H5, S5⟩ := hrel
                have cs := rc_seen (H5.out.eqv (star_left_comm _ _ _))
                have c0 := cs.c0
                have c1 := cs.c1
                have cl := cs.lt
                by_cases hqm : q < L
                · have hql : q < l.length := by rw [HL.out]; exact hqm
                  have hmq : m + q < (R.l ++ l).length := by rw [HMM.out]; omega
                  obtain ⟨g, cap4, e1, -, hg, -, -⟩ := rowL_cell H5.out hEnc_len (m + q) hmq
                  rw [HMM.out] at e1
                  simp at e1
                  obtain ⟨hao, -⟩ := e1
                  have hAt : (R.l ++ l)[m + q] = l[q] := by
                    rw [List.getElem_append_right (by rw [HM.out]; omega)]
                    congr 1
                    rw [HM.out]; omega
                  have ND : Hid (dropH (dropsA rA (l.take q)) l[q] = dropsA rA (l.take (q + 1))) := by
                    show _ = _
                    rw [List.take_succ_eq_append_getElem hql]
                    unfold dropsA
                    rw [List.foldl_append]; rfl
                  obtain ⟨Q, hQ⟩ : ∃ z, m + q = z := ⟨_, rfl⟩
                  have GC : Hid (∀ (wq : World) (G : Asr), Holds wq (rls (.slice (some ⟨g, 0, none⟩) M cap3) (R.l ++ l) * G) → wq.cell? ⟨g, Q * 3, none⟩ = some (.int .i64 l[q].1) ∧ wq.cell? ⟨g, Q * 3 + 1, none⟩ = some (.int .i64 l[q].2.1) ∧ wq.cell? ⟨g, Q * 3 + 2, none⟩ = some (.int .i64 l[q].2.2)) := by
                    intro wq G h
                    obtain ⟨g2, cap5, e2, -, -, hc2, -⟩ := rowL_cell h hEnc_len (m + q) hmq
                    rw [HMM.out] at e2
                    simp at e2
                    obtain ⟨rfl, -⟩ := e2
                    rw [hAt] at hc2
                    rw [← hQ]
                    exact ⟨hc2 0 (by omega), hc2 1 (by omega), hc2 2 (by omega)⟩
                  obtain ⟨⟨h0, h1, h2⟩, hh⟩ : ∃ z, l[q] = z := ⟨_, rfl⟩
                  rw [hh] at ND
                  simp only [hh] at GC
                  have DR := Lib.hid (fun (wq : World) (G : Asr) h => r_drop X y (dropsA rA (l.take q)) G h0 h1 h2 wq h)
                  have ND2 : Hid ((dropA (dropsA rA (l.take q)) h0 h1 h2).A = dropsA rA (l.take (q + 1))) := ND.out
                  have HQ := Lib.hid hQ
                  have j0 : (0 : Int) ≤ (Q : Int) := by omega
                  have j1 : (Q : Int) < (M : Int) := by omega
                  have qw : IntKind.i64.wrap ((Q : Int) + 1) = (Q : Int) + 1 := IntWalk.i64_in _ (by omega)
                  rw [hQ]
                  subst hao
                  clear hh cs ND hAt hmq hQ
                  obtain ⟨P, hP⟩ : ∃ z, rls (.slice (some ⟨g, 0, none⟩) M cap3) (R.l ++ l) * (rcH r y (.slice (some ⟨g, 0, none⟩) M cap3) vb3 { R with l := R.l ++ l } * (rbs vb3 R.bytes * F)) = z := ⟨_, rfl⟩
                  have HXP : Hid (Holds wr (RAr X y (dropsA rA (l.take q)) * P)) := by show Holds _ _; rw [← hP]; exact H5.out.eqv (by ac_rfl)
                  have PS : Hid (∀ (wq : World) (G : Asr), Holds wq (G * P) → wq.cell? ⟨r, 0, none⟩ = some (.pointer (some ⟨y, 0, none⟩)) ∧ wq.cell? ⟨r, 1, none⟩ = some (.slice (some ⟨g, 0, none⟩) M cap3) ∧ wq.cell? ⟨g, Q * 3, none⟩ = some (.int .i64 h0) ∧ wq.cell? ⟨g, Q * 3 + 1, none⟩ = some (.int .i64 h1) ∧ wq.cell? ⟨g, Q * 3 + 2, none⟩ = some (.int .i64 h2)) := by
                    intro wq G h
                    rw [← hP] at h
                    have hv := rc_seen (h.eqv (by ac_rfl : _ = rcH r y (.slice (some ⟨g, 0, none⟩) M cap3) vb3 { R with l := R.l ++ l } * (G * (rls (.slice (some ⟨g, 0, none⟩) M cap3) (R.l ++ l) * (rbs vb3 R.bytes * F)))))
                    obtain ⟨a0, a1, a2⟩ := GC.out wq _ (h.eqv (star_left_comm _ _ _))
                    exact ⟨hv.c0, hv.c1, a0, a1, a2⟩
                  have BK : Hid (∀ (wq : World) (A4 : List (List ABlk)), Holds wq (RAr X y A4 * P) → Holds wq (rls (.slice (some ⟨g, 0, none⟩) M cap3) (R.l ++ l) * (rcH r y (.slice (some ⟨g, 0, none⟩) M cap3) vb3 { R with l := R.l ++ l } * (rbs vb3 R.bytes * (RAr X y A4 * F))))) := by
                    intro wq A4 h
                    rw [← hP] at h
                    exact h.eqv (by ac_rfl)
                  have zz := PS.out wr _ HXP.out
                  have S6 := Lib.hid S5.out
                  clear hP H5 S5 GC
                  go_upto_region 14 with (fail)
                  go_region_held3 (fun w' => w'.cell? ⟨r, 0, none⟩ = some (.pointer (some ⟨y, 0, none⟩)) ∧ w'.cell? ⟨r, 1, none⟩ = some (.slice (some ⟨g, 0, none⟩) M cap3) ∧ w'.cell? ⟨g, Q * 3, none⟩ = some (.int .i64 h0) ∧ w'.cell? ⟨g, Q * 3 + 1, none⟩ = some (.int .i64 h1) ∧ w'.cell? ⟨g, Q * 3 + 2, none⟩ = some (.int .i64 h2)) (first | exact x2 | exact zz | go_keep) (first | (go_at_call 52; refine (DR.out _ P ?_).mono ?_; (exact HXP.out); rintro e w2 ⟨rfl, h2', s2⟩; have x2 := PS.out w2 _ h2'; have H2 := Lib.hid (BK.out w2 _ h2'); have S2 := Lib.hid (S6.out.drew.trans s2); clear h2' s2))
                  rw [ND2.out] at H2
                  go_wp2_with fail
                  go_roundw
                  case rel => exact ⟨q + 1, by omega, by have := HQ.out; go_num, H2.out, S2.out⟩
                  case measure => simp [intOf]; omega
                · obtain rfl : L = q := by omega
                  have ET : Hid (dropsA rA (l.take L) = dropsA rA l) := by show _ = _; rw [List.take_of_length_le (by rw [HL.out]; exact Nat.le_refl _)]
                  rw [ET.out, hML] at H5
                  rw [hML] at c1 hcap3
                  have hc := (H5.out.eqv (star_left_comm _ _ _))
                  have cf := hc.frozen 1
                  have hst := (Holds.store hc 1 (.slice ao3 m cap3)).eqv (star_left_comm _ _ _)
                  have hct := rowL_cut hEnc_len hst m (by rw [List.length_append, HM.out]; omega)
                  have etk : (R.l ++ l).take m = R.l := by rw [List.take_append_of_le_length (by rw [HM.out]; exact Nat.le_refl _), List.take_of_length_le (by rw [HM.out]; exact Nat.le_refl _)]
                  rw [etk] at hct
                  have HCT := Lib.hid (hct.eqv (star_left_comm _ _ _))
                  have l0 : (m : Int) ≤ (cap3 : Int) := by omega
                  have l1 : (0 : Int) ≤ (m : Int) := by omega
                  subst hML
                  clear hc cs hst hct ET etk H5
                  go_wp2_with fail
                  go_ret
                  exact ⟨by rw [RS2.out]; try rfl, by rw [RS2.out]; exact rc_shut (v := .slice ao3 m cap3) (vb := vb3) (R := R) HCT.out, S5.out.setCell _ _⟩
          · have d0 : decide (0 < n') = false := by simpa using hpos
            have RF3 : roomA A n0 = ⟨A', l, 0⟩ := by
              rw [← RF.out]
              cases f with
              | zero => rfl
              | succ f => simp only [roomF]; rw [if_neg hpos]
            have RS2 : Hid (rappA A R bs = ⟨A', { R with l := R.l ++ l, bytes := R.bytes ++ bs }, 0⟩) := by
              show _ = _
              rw [RS.out, RF3]
              rfl
            obtain ⟨v3, vb3, h4⟩ := rc_open H3.out
            obtain ⟨bo3, bcap3, e3, -⟩ := rowA_slice (h4.eqv (by unfold rbs; ac_rfl : _ = rowA 5 1 vb3 R.bytes.length (u8s R.bytes) * (rcH r y v3 vb3 { R with l := R.l ++ l } * (rls v3 (R.l ++ l) * (RAr X y A' * F)))))
            subst e3
            have cs := rc_seen h4
            have x2 := cs.c2
            have xl := cs.lt
            rw [HK.out] at x2
            have HA : Hid (Holds wr (rowA 5 1 (.slice bo3 k bcap3) k (u8s R.bytes) * (rcH r y v3 (.slice bo3 k bcap3) { R with l := R.l ++ l } * (rls v3 (R.l ++ l) * (RAr X y A' * F))))) := by
              show Holds _ _
              have := h4.eqv (by unfold rbs; ac_rfl : _ = rowA 5 1 (.slice bo3 R.bytes.length bcap3) R.bytes.length (u8s R.bytes) * (rcH r y v3 (.slice bo3 R.bytes.length bcap3) { R with l := R.l ++ l } * (rls v3 (R.l ++ l) * (RAr X y A' * F))))
              rw [HK.out] at this
              exact this
            have NW : Hid (∀ j u, (u8s bs)[j]? = some u → wr.cell? (ad.add j) = some u) := (HB.out wr _ (h4.eqv (by ac_rfl : _ = (rcH r y v3 (.slice bo3 R.bytes.length bcap3) { R with l := R.l ++ l } * (rls v3 (R.l ++ l) * (rbs (.slice bo3 R.bytes.length bcap3) R.bytes * RAr X y A'))) * F))).load
            have NL : Hid ((u8s bs).length = sn * 1) := by show _ = _; simp [u8s, HSN.out]
            have NO : Hid (∀ u ∈ u8s bs, u.oneCell' = true) := by intro u hu; obtain ⟨x, -, rfl⟩ := List.mem_map.1 hu; rfl
            have N1 : Hid (k + sn ≤ maxLen) := by show _ ≤ _; unfold maxLen; omega
            have N2 : Hid ((k + sn) * 1 ≤ 140737488355328) := by show _ ≤ _; omega
            clear h4 cs RF RF3 RS LB H3 hpos
            have RB : Hid (∀ v', rowA 5 1 v' (k + sn) (u8s R.bytes ++ u8s bs) = rbs v' (R.bytes ++ bs)) := by
              intro v'
              unfold rbs
              rw [List.length_append, HK.out, HSN.out]
              simp [u8s]
            go_wp2_with (at_builtin; refine wpList_append_sep rfl _ _ 30 rfl 5 (.int .u8 0) 1 1 Try.underlying30 Slab.infoU8 rfl rfl HA.out ad sn sc (u8s bs) rfl NL.out NW.out NO.out N1.out N2.out ?_)
            intro v' w4 h4 s4 hz
            clear hz
            obtain ⟨ao', cap', hv', -⟩ := rowA_slice h4
            subst hv'
            rw [RB.out] at h4
            have hr := h4.eqv (star_left_comm _ _ _)
            have z2 := hr.cell 2
            have zl := hr.lt
            have zf := hr.frozen 2
            simp at z2
            have hst := hr.store 2 (.slice ao' (k + sn) cap')
            have HF := Lib.hid (hst.eqv (by ac_rfl : _ = pts r (.cells (#[.pointer (some ⟨y, 0, none⟩), v3, .slice bo3 k bcap3, .bool R.shared, .bool R.freed].setIfInBounds 2 (.slice ao' (k + sn) cap')) 46 (0, 0)) * (rls v3 (R.l ++ l) * (rbs (.slice ao' (k + sn) cap') (R.bytes ++ bs) * (RAr X y A' * F)))))
            have SF := Lib.hid ((S3.out.trans s4).setCell ⟨r, 2, none⟩ (.slice ao' (k + sn) cap'))
            clear h4 s4 hr hst HA NW NL NO
            go_wp2_with fail
            go_ret
            exact ⟨by rw [RS2.out]; try rfl, by rw [RS2.out]; exact rc_shut (v := v3) (vb := .slice ao' (k + sn) cap') (R := { R with l := R.l ++ l, bytes := R.bytes ++ bs }) HF.out, SF.out⟩
#print axioms rappend_calls
end Go.Proofs.Ytefcinifaaablaa.Chain
