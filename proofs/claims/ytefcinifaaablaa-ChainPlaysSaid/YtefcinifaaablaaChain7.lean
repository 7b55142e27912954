/-
  Layer 16: Read.
-/
import Derived.Test.YtefcinifaaablaaChain4
import Derived.Test.YtefcinifaaablaaChainLen
namespace Go.Proofs.Ytefcinifaaablaa.Chain
open Go.RowKit Go.Sep
open Go.Proofs.Ytefcinifaaablaa.Slab (szOf szN szN_val clsFor Ar hdl hdlV ABlk allocA dropA holdA writeA readA Took Src u8s ReadA)
set_option maxRecDepth 100000
set_option linter.unusedVariables false
set_option linter.unusedSimpArgs false

structure Rd where
  out : List Int
  done : Nat
  frm : Int
def bit (A : List (List ABlk)) (at_ n : Nat) (s : Rd) (h : Hd) : List Int :=
  (readA A h.1 h.2.1 h.2.2 (at_ + s.done - s.frm) (if ((n : Int) - s.done) < szOf h.1 - (at_ + s.done - s.frm) then (n : Int) - s.done else szOf h.1 - (at_ + s.done - s.frm))).b
def rdS (A : List (List ABlk)) (at_ n : Nat) (s : Rd) (h : Hd) : Rd :=
  if s.done < n ∧ (at_ : Int) + s.done - s.frm < szOf h.1 then
    ⟨s.out.take s.done ++ bit A at_ n s h ++ s.out.drop (s.done + (bit A at_ n s h).length), s.done + (bit A at_ n s h).length, s.frm + szOf h.1⟩
  else ⟨s.out, s.done, s.frm + szOf h.1⟩
def rdL (A : List (List ABlk)) (at_ n : Nat) (l : List Hd) : Rd := l.foldl (rdS A at_ n) ⟨List.replicate n 0, 0, 0⟩
theorem readA_len (A : List (List ABlk)) (c i g at_ n : Int) : ((readA A c i g at_ n).b.length : Int) ≤ n ∨ (readA A c i g at_ n).b = [] := by
  unfold readA
  split
  · simp only
    split
    · exact .inr rfl
    · left
      rename_i h
      simp only [List.length_take]
      omega
  · exact .inr rfl
theorem bit_len (A : List (List ABlk)) (at_ n : Nat) (s : Rd) (h : Hd) (hd : s.done ≤ n) : s.done + (bit A at_ n s h).length ≤ n := by
  unfold bit
  rcases readA_len A h.1 h.2.1 h.2.2 (at_ + s.done - s.frm) (if ((n : Int) - s.done) < szOf h.1 - (at_ + s.done - s.frm) then (n : Int) - s.done else szOf h.1 - (at_ + s.done - s.frm)) with q | q
  · split at q <;> split <;> omega
  · rw [q]; simp; omega
theorem rdS_ok (A : List (List ABlk)) (at_ n : Nat) (s : Rd) (h : Hd) (h1 : s.out.length = n) (h2 : s.done ≤ n) : (rdS A at_ n s h).out.length = n ∧ (rdS A at_ n s h).done ≤ n := by
  have := bit_len A at_ n s h h2
  unfold rdS
  split
  · refine ⟨?_, this⟩
    simp only [List.length_append, List.length_take, List.length_drop]
    omega
  · exact ⟨h1, h2⟩
def readC (A : List (List ABlk)) (K : Ch) (at_ n : Int) : Slab.Got :=
  if K.freed then ⟨[], 16⟩ else if at_ < 0 ∨ n < 0 ∨ K.long < at_ ∨ K.long - at_ < n then ⟨[], 2⟩ else ⟨(rdL A at_.toNat n.toNat K.l).out, 0⟩
/-- bytes in a row of their own -/
theorem src_row {w : World} {v : Value} {bs : List Int} {F : Asr} (h : Holds w (rowA 5 1 v bs.length (u8s bs) * F)) : ∃ so sc, v = .slice so bs.length sc ∧ Src w so bs.length bs := by
  obtain ⟨so, sc, e, -⟩ := rowA_slice h
  refine ⟨so, sc, e, rfl, fun hp => ?_⟩
  obtain ⟨g, cap, e2, -, hg, hc, -⟩ := rowA_cell h hp
  rw [e] at e2
  simp only [Value.slice.injEq] at e2
  refine ⟨g, 0, e2.1, hg, fun j hj => ?_⟩
  rw [Nat.zero_add, hc j (by omega)]
  simp [u8s, hj, List.getD]
theorem lenOf_slice (so : Option Addr) (n c : Nat) (w : World) : (Builtin.lenOf (.slice so n c)).run Try.prog w = .ok n w := by simp [Builtin.lenOf]
def ReadK (r : Slab.Got) (F : Asr) (w : World) (e : Ending) (w' : World) : Prop := ReadA r.b r.e F w e w'
set_option maxHeartbeats 8000000 in
theorem cread_calls (c a : Nat) (K : Ch) (A : List (List ABlk)) (F : Asr) (at_ n : Int) (w : World) (hK : OkC K) (hw : Holds w (chA c a K * (Ar a A * F))) :
    Calls Try.prog 17 #[.pointer (some ⟨c, 0, none⟩), .int .i64 at_, .int .i64 n] w (ReadK (readC A K at_ n) (chA c a K * (Ar a A * F)) w) := by
  have ST := Lib.hid (state_calls c a K A F w hw)
  have HW := Lib.hid hw
  have KK := Lib.hid hK
  clear hw
  cases hfr : K.freed with
  | true =>
    unfold stateE at ST
    rw [hfr] at ST
    have RS : Hid (readC A K at_ n = ⟨[], 16⟩) := by show _ = _; unfold readC; rw [hfr]; rfl
    clear hfr hK
    go_enter Try.func17, Try.ntmps17
    go_wp2_with fail
    refine (ST.out).mono ?_
    rintro e w1 ⟨rfl, hb1⟩
    go_wp2_with fail
    go_ret2
    rw [RS.out]
    exact ⟨_, rfl, rowA_nil (HW.out.grow hb1), .of_below hb1⟩
  | false =>
    unfold stateE at ST
    rw [hfr] at ST
    have FC : Hid (∀ w', Below w.heap.size w w' → w'.cell? ⟨c, 2, none⟩ = some (.int .i64 K.long) ∧ c < w'.heap.size) := by
      intro w' hb
      obtain ⟨v, hv⟩ := chA_seen (HW.out.grow hb)
      exact ⟨hv.c2, hv.lt⟩
    have k1 := hK.l0
    have k2 := hK.l1
    by_cases hbad : at_ < 0 ∨ n < 0 ∨ K.long < at_ ∨ K.long - at_ < n
    · have RS : Hid (readC A K at_ n = ⟨[], 2⟩) := by show _ = _; unfold readC; rw [hfr, if_neg (by simp), if_pos hbad]
      obtain ⟨lg, hlg⟩ : ∃ q, K.long = q := ⟨_, rfl⟩
      rw [hlg] at FC k1 k2 hbad
      clear hfr hK hlg
      by_cases d1 : at_ < 0
      · have e1 : decide (at_ < 0) = true := by simpa using d1
        clear hbad d1
        go_enter Try.func17, Try.ntmps17
        go_wp2_with fail
        refine (ST.out).mono ?_
        rintro e w1 ⟨rfl, hb1⟩
        go_wp2_with fail
        go_ret2
        rw [RS.out]
        exact ⟨_, rfl, rowA_nil (HW.out.grow hb1), .of_below hb1⟩
      · have e1 : decide (at_ < 0) = false := by simpa using d1
        by_cases d2 : n < 0
        · have e2 : decide (n < 0) = true := by simpa using d2
          clear hbad d1 d2
          go_enter Try.func17, Try.ntmps17
          go_wp2_with fail
          refine (ST.out).mono ?_
          rintro e w1 ⟨rfl, hb1⟩
          go_wp2_with fail
          go_ret2
          rw [RS.out]
          exact ⟨_, rfl, rowA_nil (HW.out.grow hb1), .of_below hb1⟩
        · have e2 : decide (n < 0) = false := by simpa using d2
          by_cases d3 : lg < at_
          · have e3 : decide (lg < at_) = true := by simpa using d3
            clear hbad d1 d2 d3
            go_enter Try.func17, Try.ntmps17
            go_wp2_with fail
            refine (ST.out).mono ?_
            rintro e w1 ⟨rfl, hb1⟩
            obtain ⟨x2, xl⟩ := FC.out w1 hb1
            have B1 := Lib.hid hb1
            clear hb1 FC ST
            go_wp2_with fail
            go_ret2
            rw [RS.out]
            exact ⟨_, rfl, rowA_nil (HW.out.grow B1.out), .of_below B1.out⟩
          · have e3 : decide (lg < at_) = false := by simpa using d3
            have e4 : decide (lg - at_ < n) = true := by simp; omega
            have lw : IntKind.i64.wrap (lg - at_) = lg - at_ := IntWalk.i64_in _ (by omega)
            clear hbad d1 d2 d3
            go_enter Try.func17, Try.ntmps17
            go_wp2_with fail
            refine (ST.out).mono ?_
            rintro e w1 ⟨rfl, hb1⟩
            obtain ⟨x2, xl⟩ := FC.out w1 hb1
            have B1 := Lib.hid hb1
            clear hb1 FC ST
            go_wp2_with fail
            go_ret2
            rw [RS.out]
            exact ⟨_, rfl, rowA_nil (HW.out.grow B1.out), .of_below B1.out⟩
    · obtain ⟨p, rfl⟩ := Int.eq_ofNat_of_zero_le (show 0 ≤ at_ by omega)
      obtain ⟨q, rfl⟩ := Int.eq_ofNat_of_zero_le (show 0 ≤ n by omega)
      have RS : Hid (readC A K p q = ⟨(rdL A p q K.l).out, 0⟩) := by show _ = _; unfold readC; rw [hfr, if_neg (by simp), if_neg hbad]; rfl
      obtain ⟨lg, hlg⟩ : ∃ q, K.long = q := ⟨_, rfl⟩
      rw [hlg] at FC k1 k2 hbad
      have e1 : decide ((p : Int) < 0) = false := by simp
      have e2 : decide ((q : Int) < 0) = false := by simp
      have e3 : decide (lg < (p : Int)) = false := by simp; omega
      have e4 : decide (lg - (p : Int) < (q : Int)) = false := by simp; omega
      have lw : IntKind.i64.wrap (lg - (p : Int)) = lg - (p : Int) := IntWalk.i64_in _ (by omega)
      have p9 : p ≤ 1048576 := by omega
      have q9 : q ≤ 1048576 := by omega
      have MK := run_make_u8 q q9
      obtain ⟨m, hm⟩ : ∃ q, K.l.length = q := ⟨_, rfl⟩
      have m9 : m ≤ 20000 := by rw [← hm]; exact hK.n
      have HM := Lib.hid hm
      clear hfr hm hK hlg hbad
      go_enter Try.func17, Try.ntmps17
      go_wp2_with fail
      refine (ST.out).mono ?_
      rintro e w1 ⟨rfl, hb1⟩
      obtain ⟨x2, xl⟩ := FC.out w1 hb1
      obtain ⟨v, h1⟩ := ch_open (HW.out.grow hb1)
      obtain ⟨ao, cap, e1', hcap⟩ := rowA_slice (h1.eqv (star_left_comm _ _ _))
      subst e1'
      have cs := ch_seen h1
      have x1 := cs.c1
      rw [HM.out] at x1 hcap
      have H1 := Lib.hid (h1.alloc (.cells (List.replicate q (Value.int .u8 0)).toArray 5))
      have S1 : Hid (Sm w (w1.alloc (.cells (List.replicate q (Value.int .u8 0)).toArray 5))) := (Sm.of_below hb1).alloc _
      have xc : (w1.alloc (.cells (List.replicate q (Value.int .u8 0)).toArray 5)).cell? ⟨c, 1, none⟩ = some (.slice ao m cap) := (World.cell?_alloc_lt _ _ _ xl).trans x1
      have xl2 : c < w1.heap.size + 1 := by omega
      clear hb1 FC ST HW h1 cs
      go_wp2_with fail
      clear e3 e4 lw
      obtain ⟨G, hG⟩ : ∃ z, w1.heap.size = z := ⟨_, rfl⟩
      rw [hG] at H1 ⊢
      have EA : (List.replicate q (Value.int .u8 0)).toArray = Array.replicate q (Value.int .u8 0) := by simp
      rw [EA] at H1 S1
      obtain ⟨W1, hW1⟩ : ∃ z, w1.alloc (.cells (Array.replicate q (Value.int .u8 0)) 5) = z := ⟨_, rfl⟩
      rw [hW1] at H1 S1 ⊢
      clear hG hW1 x1 x2 xl xc xl2 MK
      go_loopw [10, 11, 54] (fun x y z wl => ∃ (k : Nat) (s : Rd), k ≤ m ∧ x = .int .i64 (s.done : Nat) ∧ y = .int .i64 s.frm ∧ z = .int .i64 k ∧ s.out.length = q ∧ s.done ≤ q ∧ 0 ≤ s.frm ∧ s.frm ≤ 4096 * k ∧ Hid ((K.l.take k).foldl (rdS A p q) ⟨List.replicate q 0, 0, 0⟩ = s) ∧ Hid (Holds wl (pts G (.cells (u8s s.out).toArray 5) * (hls (.slice ao m cap) K.l * (chH c a (.slice ao m cap) K * (Ar a A * F))))) ∧ Hid (Sm w wl)) (fun _ _ z _ => m - (intOf z).toNat)
      case atStart => exact ⟨0, ⟨List.replicate q 0, 0, 0⟩, Nat.zero_le _, rfl, rfl, rfl, by simp, Nat.zero_le _, by simp, by simp, rfl, (show Holds _ _ by have := H1.out; rw [HM.out] at this; rw [show (u8s (List.replicate q (0 : Int))).toArray = Array.replicate q (Value.int .u8 0) by simp [u8s]]; exact this.eqv (by ac_rfl)), S1.out⟩
      case round =>
        clear H1 S1
        obtain ⟨k, s, hk, rfl, rfl, rfl, o1, o2, f0, f9, FL, H3, S3⟩ := hrel
        by_cases hkm : k < m
        · have hkl : k < K.l.length := by rw [HM.out]; exact hkm
          obtain ⟨g, cap2, e1', -, hg, hrc, -⟩ := rowL_cell (H3.out.eqv (star_left_comm _ _ _)) hEnc_len k hkl
          simp at e1'
          obtain ⟨hao, -⟩ := e1'
          have k0 := hrc 0 (by omega)
          have k1' := hrc 1 (by omega)
          have k2' := hrc 2 (by omega)
          obtain ⟨j, hj4, hj⟩ := KK.out.cls K.l[k] (List.getElem_mem _)
          have ND : Hid ((K.l.take (k + 1)).foldl (rdS A p q) ⟨List.replicate q 0, 0, 0⟩ = rdS A p q s K.l[k]) := by
            show _ = _
            rw [List.take_succ_eq_append_getElem hkl, List.foldl_append, FL.out]; rfl
          have OK := rdS_ok A p q s K.l[k] o1 o2
          obtain ⟨⟨h0, h1, h2⟩, hh⟩ : ∃ z, K.l[k] = z := ⟨_, rfl⟩
          rw [hh] at k0 k1' k2' ND hj OK
          have hj : h0 = (j : Int) := hj
          subst hj
          simp only [hEnc, Nat.add_zero, List.getElem?_cons_zero, List.getElem?_cons_succ] at k0 k1' k2'
          obtain ⟨sz, hs⟩ : ∃ q, szOf j = q := ⟨_, rfl⟩
          have hs64 := szOf_64 j hj4
          rw [hs] at hs64
          have SZ := Lib.hid (fun w => hs ▸ Slab.sizes_calls j w)
          have HS := Lib.hid hs
          have cs := ch_seen (H3.out.eqv (by ac_rfl : _ = chH c a (.slice ao m cap) K * (pts G (.cells (u8s s.out).toArray 5) * (hls (.slice ao m cap) K.l * (Ar a A * F)))))
          have c0 := cs.c0
          have cl := cs.lt
          have i0 : (0 : Int) ≤ (k : Int) := by omega
          have i1 : (k : Int) < (m : Int) := by omega
          obtain ⟨out, dn, fr⟩ := s
          simp only at o1 o2 f0 f9 OK ⊢
          obtain ⟨iw, hiw⟩ : ∃ z, (p : Int) + dn - fr = z := ⟨_, rfl⟩
          have aw1 : IntKind.i64.wrap ((p : Int) + (dn : Int)) = (p : Int) + (dn : Int) := IntWalk.i64_in _ (by omega)
          have aw2 : IntKind.i64.wrap ((p : Int) + (dn : Int) - fr) = iw := by rw [hiw]; exact IntWalk.i64_in _ (by omega)
          have aw3 : IntKind.i64.wrap (fr + sz) = fr + sz := IntWalk.i64_in _ (by omega)
          have HX := Lib.hid (H3.out.alloc (.cells #[.int .i64 j, .int .i64 h1, .int .i64 h2] 106))
          have S4 := Lib.hid (S3.out.alloc (.cells #[.int .i64 j, .int .i64 h1, .int .i64 h2] 106))
          subst hao
          clear hrc hh cs hs
          obtain ⟨bs, hbs⟩ : ∃ z, bit A p q ⟨out, dn, fr⟩ ((j : Int), h1, h2) = z := ⟨_, rfl⟩
          by_cases hgo : dn < q ∧ iw < sz
          · have bl := bit_len A p q ⟨out, dn, fr⟩ ((j : Int), h1, h2) o2
            rw [hbs] at bl
            have bl : dn + bs.length ≤ q := bl
            have ND2 : Hid ((K.l.take (k + 1)).foldl (rdS A p q) ⟨List.replicate q 0, 0, 0⟩ = ⟨out.take dn ++ bs ++ out.drop (dn + bs.length), dn + bs.length, fr + sz⟩) := by
              show _ = _
              rw [ND.out]
              unfold rdS
              rw [hbs]
              simp only [HS.out, hiw]
              rw [if_pos hgo]
            have O1 : Hid ((out.take dn ++ bs ++ out.drop (dn + bs.length)).length = q) := by
              show _ = _
              simp only [List.length_append, List.length_take, List.length_drop]
              omega
            have HB : Hid ((readA A j h1 h2 iw (if (q : Int) - dn < sz - iw then (q : Int) - dn else sz - iw)).b = bs) := by
              show _ = _
              rw [← hbs]
              unfold bit
              simp only [HS.out, hiw]
            obtain ⟨g1, g2⟩ := hgo
            have e1 : decide ((dn : Int) < (q : Int)) = true := by simp; omega
            have e1n : decide (dn < q) = true := by simpa using g1
            have e2 : decide (iw < sz) = true := by simpa using g2
            have aw4 : IntKind.i64.wrap (sz - iw) = sz - iw := IntWalk.i64_in _ (by omega)
            have aw5 : IntKind.i64.wrap ((q : Int) - (dn : Int)) = (q : Int) - (dn : Int) := IntWalk.i64_in _ (by omega)
            clear hbs ND OK hiw
            by_cases ht : (q : Int) - (dn : Int) < sz - iw
            · have htd : decide ((q : Int) - (dn : Int) < sz - iw) = true := by simpa using ht
              replace HB : Hid (∀ _ : True, (readA A j h1 h2 iw ((q : Int) - dn)).b = bs) := fun _ => by have := HB.out; rw [if_pos ht] at this; exact this
              have RD : Hid (∀ (wq : World) (G' : Asr), Holds wq (Ar a A * G') → Calls Try.prog 50 #[.pointer (some ⟨a, 0, none⟩), .agg #[.int .i64 j, .int .i64 h1, .int .i64 h2], .int .i64 iw, .int .i64 ((q : Int) - (dn : Int))] wq fun e w' => ∃ v er, e = .returned (.tuple #[v, .int .i64 er]) ∧ Holds w' (rowA 5 1 v bs.length (u8s bs) * (Ar a A * G')) ∧ Sm wq w') := fun wq G' h => by
                have q1 := Slab.readA_calls a A G' j h1 h2 iw ((q : Int) - (dn : Int)) wq h
                rw [HB.out trivial] at q1
                exact q1.mono fun e w' ⟨v, e1, e2, e3⟩ => ⟨v, _, e1, e2, e3⟩
              clear HB
              go_wp2_with fail
              refine (SZ.out _).mono ?_
              rintro e w' ⟨rfl, rfl⟩
              go_upto_region 14 with (fail)
              obtain ⟨B8, hB8⟩ : ∃ z, wr.heap.size = z := ⟨_, rfl⟩
              obtain ⟨W2, hW2⟩ : ∃ z, wr.alloc (.cells #[.int .i64 j, .int .i64 h1, .int .i64 h2] 106) = z := ⟨_, rfl⟩
              rw [hB8] at HX ⊢
              rw [hW2] at HX S4 ⊢
              obtain ⟨PP, hPP⟩ : ∃ y, pts B8 (.cells #[.int .i64 j, .int .i64 h1, .int .i64 h2] 106) * (pts G (.cells (u8s out).toArray 5) * (hls (.slice (some ⟨g, 0, none⟩) m cap) K.l * (chH c a (.slice (some ⟨g, 0, none⟩) m cap) K * F))) = y := ⟨_, rfl⟩
              have HXP : Hid (Holds W2 (Ar a A * PP)) := by show Holds _ _; rw [← hPP]; exact HX.out.eqv (by ac_rfl)
              have PS : Hid (∀ (wq : World) (G' : Asr), Holds wq (G' * PP) → wq.cell? ⟨c, 0, none⟩ = some (.pointer (some ⟨a, 0, none⟩)) ∧ wq.cell? ⟨B8, 0, none⟩ = some (.int .i64 j) ∧ wq.cell? ⟨B8, 1, none⟩ = some (.int .i64 h1) ∧ wq.cell? ⟨B8, 2, none⟩ = some (.int .i64 h2)) := by
                intro wq G' h
                rw [← hPP] at h
                have hv := ch_seen (h.eqv (by ac_rfl : _ = chH c a (.slice (some ⟨g, 0, none⟩) m cap) K * (G' * (pts B8 (.cells #[.int .i64 j, .int .i64 h1, .int .i64 h2] 106) * (pts G (.cells (u8s out).toArray 5) * (hls (.slice (some ⟨g, 0, none⟩) m cap) K.l * F))))))
                have hz := h.eqv (star_left_comm _ _ _)
                have a0 := hz.cell 0
                have a1 := hz.cell 1
                have a2 := hz.cell 2
                simp at a0 a1 a2
                exact ⟨hv.c0, a0, a1, a2⟩
              have zz := PS.out W2 _ HXP.out
              clear hW2 hB8 HX H3 S3 k0 k1' k2'
              go_region_held3 (fun w' => w'.cell? ⟨c, 0, none⟩ = some (.pointer (some ⟨a, 0, none⟩)) ∧ w'.cell? ⟨B8, 0, none⟩ = some (.int .i64 j) ∧ w'.cell? ⟨B8, 1, none⟩ = some (.int .i64 h1) ∧ w'.cell? ⟨B8, 2, none⟩ = some (.int .i64 h2)) (first | exact x2 | exact zz | go_keep) (first | (go_at_call 50; refine (RD.out _ PP ?_).mono ?_; (exact HXP.out); rintro e w2 ⟨vb, er, rfl, h2', s2⟩; have x2 := PS.out w2 _ (h2'.eqv (by ac_rfl : _ = (rowA 5 1 vb bs.length (u8s bs) * Ar a A) * PP)); have H2 := Lib.hid h2'; have S2 := Lib.hid (S4.out.drew.trans s2); clear h2' s2))
              obtain ⟨so, sc, hvb, hsrc⟩ := src_row H2.out
              subst hvb
              have H5 := H2.out
              rw [← hPP] at H5
              have H6 := H5.eqv (by ac_rfl : _ = pts G (.cells (u8s out).toArray 5) * (rowA 5 1 (.slice so bs.length sc) bs.length (u8s bs) * (pts B8 (.cells #[.int .i64 j, .int .i64 h1, .int .i64 h2] 106) * (hls (.slice (some ⟨g, 0, none⟩) m cap) K.l * (chH c a (.slice (some ⟨g, 0, none⟩) m cap) K * (Ar a A * F))))))
              have CPY := fun ty => run_copy_sep (P := Try.prog) (src := .slice so bs.length sc) (o := dn) (dl := q - dn) (dc := q - dn) (t := 30) (t' := 30) ty Try.underlying30 (fun w => by kernel_rfl) H6 (sl := bs.length) (n := bs.length) rfl (Nat.min_eq_left (by omega)) hsrc.first (by simp [u8s]) (by intro v hv; obtain ⟨x, -, rfl⟩ := List.mem_map.1 hv; rfl) (by simp [u8s, o1]; omega)
              have H7 := H6.setRow ((u8s out).toArray.toList.take dn ++ u8s bs ++ (u8s out).toArray.toList.drop (dn + bs.length)).toArray
              have ER : ((u8s out).toArray.toList.take dn ++ u8s bs ++ (u8s out).toArray.toList.drop (dn + bs.length)).toArray = (u8s (out.take dn ++ bs ++ out.drop (dn + bs.length))).toArray := by simp [u8s, List.map_take, List.map_drop]
              rw [ER] at H7 CPY
              have CP := Lib.hid CPY
              have H8 := Lib.hid ((H7.eqv (by ac_rfl : _ = rowA 5 1 (.slice so bs.length sc) bs.length (u8s bs) * (pts B8 (.cells #[.int .i64 j, .int .i64 h1, .int .i64 h2] 106) * (pts G (.cells (u8s (out.take dn ++ bs ++ out.drop (dn + bs.length))).toArray 5) * (hls (.slice (some ⟨g, 0, none⟩) m cap) K.l * (chH c a (.slice (some ⟨g, 0, none⟩) m cap) K * (Ar a A * F))))))).right.right)
              have S8 := Lib.hid (S2.out.setRow G (u8s (out.take dn ++ bs ++ out.drop (dn + bs.length))).toArray)
              obtain ⟨out2, ho2⟩ : ∃ z, out.take dn ++ bs ++ out.drop (dn + bs.length) = z := ⟨_, rfl⟩
              rw [ho2] at H8 S8 CP ND2 O1
              have dq1 : (dn : Int) ≤ (q : Int) := by omega
              have dq2 : ¬ q = dn := by omega
              have dq3 : ¬ dn = q := by omega
              have d0 : (0 : Int) ≤ (dn : Int) := by omega
              have aw6 : IntKind.i64.wrap ((dn : Int) + (bs.length : Int)) = (dn : Int) + (bs.length : Int) := IntWalk.i64_in _ (by omega)
              clear PS zz HXP hPP H5 H6 H7 CPY ER hsrc H2 S2 RD x2 S4 ho2
              go_wp2_with (with_reducible refine wpList_copy_run rfl _ _ _ rfl _ _ (CP.out _) ?_)
              go_roundw
              case rel => exact ⟨k + 1, ⟨out2, dn + bs.length, fr + sz⟩, by omega, by go_num, rfl, by go_num, O1.out, bl, by show 0 ≤ fr + sz; omega, by show fr + sz ≤ _; omega, ND2.out, H8.out, S8.out⟩
              case measure => simp [intOf]; omega
            · have htd : decide ((q : Int) - (dn : Int) < sz - iw) = false := by simpa using ht
              have hif : (if (q : Int) - (dn : Int) < sz - iw then (q : Int) - (dn : Int) else sz - iw) = sz - iw := if_neg ht
              replace HB : Hid (∀ _ : True, (readA A j h1 h2 iw (sz - iw)).b = bs) := fun _ => by have := HB.out; rw [if_neg ht] at this; exact this
              have RD : Hid (∀ (wq : World) (G' : Asr), Holds wq (Ar a A * G') → Calls Try.prog 50 #[.pointer (some ⟨a, 0, none⟩), .agg #[.int .i64 j, .int .i64 h1, .int .i64 h2], .int .i64 iw, .int .i64 (sz - iw)] wq fun e w' => ∃ v er, e = .returned (.tuple #[v, .int .i64 er]) ∧ Holds w' (rowA 5 1 v bs.length (u8s bs) * (Ar a A * G')) ∧ Sm wq w') := fun wq G' h => by
                have q1 := Slab.readA_calls a A G' j h1 h2 iw (sz - iw) wq h
                rw [HB.out trivial] at q1
                exact q1.mono fun e w' ⟨v, e1, e2, e3⟩ => ⟨v, _, e1, e2, e3⟩
              clear HB
              go_wp2_with fail
              refine (SZ.out _).mono ?_
              rintro e w' ⟨rfl, rfl⟩
              go_upto_region 14 with (fail)
              obtain ⟨B8, hB8⟩ : ∃ z, wr.heap.size = z := ⟨_, rfl⟩
              obtain ⟨W2, hW2⟩ : ∃ z, wr.alloc (.cells #[.int .i64 j, .int .i64 h1, .int .i64 h2] 106) = z := ⟨_, rfl⟩
              rw [hB8] at HX ⊢
              rw [hW2] at HX S4 ⊢
              obtain ⟨PP, hPP⟩ : ∃ y, pts B8 (.cells #[.int .i64 j, .int .i64 h1, .int .i64 h2] 106) * (pts G (.cells (u8s out).toArray 5) * (hls (.slice (some ⟨g, 0, none⟩) m cap) K.l * (chH c a (.slice (some ⟨g, 0, none⟩) m cap) K * F))) = y := ⟨_, rfl⟩
              have HXP : Hid (Holds W2 (Ar a A * PP)) := by show Holds _ _; rw [← hPP]; exact HX.out.eqv (by ac_rfl)
              have PS : Hid (∀ (wq : World) (G' : Asr), Holds wq (G' * PP) → wq.cell? ⟨c, 0, none⟩ = some (.pointer (some ⟨a, 0, none⟩)) ∧ wq.cell? ⟨B8, 0, none⟩ = some (.int .i64 j) ∧ wq.cell? ⟨B8, 1, none⟩ = some (.int .i64 h1) ∧ wq.cell? ⟨B8, 2, none⟩ = some (.int .i64 h2)) := by
                intro wq G' h
                rw [← hPP] at h
                have hv := ch_seen (h.eqv (by ac_rfl : _ = chH c a (.slice (some ⟨g, 0, none⟩) m cap) K * (G' * (pts B8 (.cells #[.int .i64 j, .int .i64 h1, .int .i64 h2] 106) * (pts G (.cells (u8s out).toArray 5) * (hls (.slice (some ⟨g, 0, none⟩) m cap) K.l * F))))))
                have hz := h.eqv (star_left_comm _ _ _)
                have a0 := hz.cell 0
                have a1 := hz.cell 1
                have a2 := hz.cell 2
                simp at a0 a1 a2
                exact ⟨hv.c0, a0, a1, a2⟩
              have zz := PS.out W2 _ HXP.out
              clear hW2 hB8 HX H3 S3 k0 k1' k2'
              go_region_held3 (fun w' => w'.cell? ⟨c, 0, none⟩ = some (.pointer (some ⟨a, 0, none⟩)) ∧ w'.cell? ⟨B8, 0, none⟩ = some (.int .i64 j) ∧ w'.cell? ⟨B8, 1, none⟩ = some (.int .i64 h1) ∧ w'.cell? ⟨B8, 2, none⟩ = some (.int .i64 h2)) (first | exact x2 | exact zz | go_keep) (first | (go_at_call 50; refine (RD.out _ PP ?_).mono ?_; (exact HXP.out); rintro e w2 ⟨vb, er, rfl, h2', s2⟩; have x2 := PS.out w2 _ (h2'.eqv (by ac_rfl : _ = (rowA 5 1 vb bs.length (u8s bs) * Ar a A) * PP)); have H2 := Lib.hid h2'; have S2 := Lib.hid (S4.out.drew.trans s2); clear h2' s2))
              obtain ⟨so, sc, hvb, hsrc⟩ := src_row H2.out
              subst hvb
              have H5 := H2.out
              rw [← hPP] at H5
              have H6 := H5.eqv (by ac_rfl : _ = pts G (.cells (u8s out).toArray 5) * (rowA 5 1 (.slice so bs.length sc) bs.length (u8s bs) * (pts B8 (.cells #[.int .i64 j, .int .i64 h1, .int .i64 h2] 106) * (hls (.slice (some ⟨g, 0, none⟩) m cap) K.l * (chH c a (.slice (some ⟨g, 0, none⟩) m cap) K * (Ar a A * F))))))
              have CPY := fun ty => run_copy_sep (P := Try.prog) (src := .slice so bs.length sc) (o := dn) (dl := q - dn) (dc := q - dn) (t := 30) (t' := 30) ty Try.underlying30 (fun w => by kernel_rfl) H6 (sl := bs.length) (n := bs.length) rfl (Nat.min_eq_left (by omega)) hsrc.first (by simp [u8s]) (by intro v hv; obtain ⟨x, -, rfl⟩ := List.mem_map.1 hv; rfl) (by simp [u8s, o1]; omega)
              have H7 := H6.setRow ((u8s out).toArray.toList.take dn ++ u8s bs ++ (u8s out).toArray.toList.drop (dn + bs.length)).toArray
              have ER : ((u8s out).toArray.toList.take dn ++ u8s bs ++ (u8s out).toArray.toList.drop (dn + bs.length)).toArray = (u8s (out.take dn ++ bs ++ out.drop (dn + bs.length))).toArray := by simp [u8s, List.map_take, List.map_drop]
              rw [ER] at H7 CPY
              have CP := Lib.hid CPY
              have H8 := Lib.hid ((H7.eqv (by ac_rfl : _ = rowA 5 1 (.slice so bs.length sc) bs.length (u8s bs) * (pts B8 (.cells #[.int .i64 j, .int .i64 h1, .int .i64 h2] 106) * (pts G (.cells (u8s (out.take dn ++ bs ++ out.drop (dn + bs.length))).toArray 5) * (hls (.slice (some ⟨g, 0, none⟩) m cap) K.l * (chH c a (.slice (some ⟨g, 0, none⟩) m cap) K * (Ar a A * F))))))).right.right)
              have S8 := Lib.hid (S2.out.setRow G (u8s (out.take dn ++ bs ++ out.drop (dn + bs.length))).toArray)
              obtain ⟨out2, ho2⟩ : ∃ z, out.take dn ++ bs ++ out.drop (dn + bs.length) = z := ⟨_, rfl⟩
              rw [ho2] at H8 S8 CP ND2 O1
              have dq1 : (dn : Int) ≤ (q : Int) := by omega
              have dq2 : ¬ q = dn := by omega
              have dq3 : ¬ dn = q := by omega
              have d0 : (0 : Int) ≤ (dn : Int) := by omega
              have aw6 : IntKind.i64.wrap ((dn : Int) + (bs.length : Int)) = (dn : Int) + (bs.length : Int) := IntWalk.i64_in _ (by omega)
              clear PS zz HXP hPP H5 H6 H7 CPY ER hsrc H2 S2 RD x2 S4 ho2
              go_wp2_with (with_reducible refine wpList_copy_run rfl _ _ _ rfl _ _ (CP.out _) ?_)
              go_roundw
              case rel => exact ⟨k + 1, ⟨out2, dn + bs.length, fr + sz⟩, by omega, by go_num, rfl, by go_num, O1.out, bl, by show 0 ≤ fr + sz; omega, by show fr + sz ≤ _; omega, ND2.out, H8.out, S8.out⟩
              case measure => simp [intOf]; omega
          · have ND2 : Hid ((K.l.take (k + 1)).foldl (rdS A p q) ⟨List.replicate q 0, 0, 0⟩ = ⟨out, dn, fr + sz⟩) := by
              show _ = _
              rw [ND.out]
              unfold rdS
              simp only [HS.out, hiw]
              rw [if_neg hgo]
            have H8 := Lib.hid HX.out.right
            clear hbs ND OK hiw HX H3 S3
            by_cases g1 : dn < q
            · have e1 : decide ((dn : Int) < (q : Int)) = true := by simp; omega
              have e1n : decide (dn < q) = true := by simpa using g1
              have e2 : decide (iw < sz) = false := by simp; omega
              clear hgo
              go_wp2_with fail
              refine (SZ.out _).mono ?_
              rintro e w' ⟨rfl, rfl⟩
              go_wp2_with fail
              go_roundw
              case rel => exact ⟨k + 1, ⟨out, dn, fr + sz⟩, by omega, rfl, rfl, by go_num, o1, o2, by show 0 ≤ fr + sz; omega, by show fr + sz ≤ _; omega, ND2.out, H8.out, S4.out⟩
              case measure => simp [intOf]; omega
            · have e1 : decide ((dn : Int) < (q : Int)) = false := by simp; omega
              have e1n : decide (dn < q) = false := by simpa using g1
              clear hgo
              go_wp2_with fail
              refine (SZ.out _).mono ?_
              rintro e w' ⟨rfl, rfl⟩
              go_wp2_with fail
              go_roundw
              case rel => exact ⟨k + 1, ⟨out, dn, fr + sz⟩, by omega, rfl, rfl, by go_num, o1, o2, by show 0 ≤ fr + sz; omega, by show fr + sz ≤ _; omega, ND2.out, H8.out, S4.out⟩
              case measure => simp [intOf]; omega
        · obtain rfl : m = k := by omega
          have ET : K.l.take m = K.l := List.take_of_length_le (by rw [HM.out]; exact Nat.le_refl _)
          rw [ET] at FL
          have RS2 : Hid (readC A K p q = ⟨s.out, 0⟩) := by
            show _ = _
            rw [RS.out]
            show Slab.Got.mk ((K.l.foldl (rdS A p q) ⟨List.replicate q 0, 0, 0⟩).out) 0 = _
            rw [FL.out]
          have H8 := Lib.hid H3.out
          clear ET FL RS H3
          go_wp2_with fail
          go_ret2
          rw [RS2.out]
          refine ⟨_, rfl, ?_, S3.out⟩
          have h := rowA_mk' (T := 5) (sz := 1) (n := q) (cap := q) (xs := u8s s.out) H8.out (Nat.le_refl _) (by unfold maxLen; omega) (by simp [u8s, o1]) (by rw [Nat.mul_one]; exact List.take_of_length_le (by simp [u8s, o1]))
          show Holds _ (rowA 5 1 (.slice (some ⟨G, 0, none⟩) q q) s.out.length (u8s s.out) * _)
          rw [o1]
          have h2 := (h.eqv (by ac_rfl : _ = chH c a (.slice ao m cap) K * (hls (.slice ao m cap) K.l * (rowA 5 1 (.slice (some ⟨G, 0, none⟩) q q) q (u8s s.out) * (Ar a A * F)))))
          rw [← HM.out] at h2
          exact (ch_shut h2).eqv (by ac_rfl)
#print axioms cread_calls
end Go.Proofs.Ytefcinifaaablaa.Chain
