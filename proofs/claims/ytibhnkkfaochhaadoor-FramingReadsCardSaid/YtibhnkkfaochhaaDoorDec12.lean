/-
  Layer 6: Feed (printed by gen/dec12.py).
-/
import Derived.Test.YtibhnkkfaochhaaDoorDec11
import Derived.Deep.WholeRow
namespace Go.Proofs.YtibhnkkfaochhaaDoor.Dec
open Go.RowKit Go.Sep
open Go.Proofs.YtibhnkkfaochhaaDoor.Tok
set_option maxRecDepth 100000
set_option linter.unusedVariables false
set_option linter.unusedSimpArgs false

theorem wpList_store_new {P : Program} {ops : Array Oper} {rest : List Oper} {op : Oper} {a : Act} {w : World} {Q : Exit → Act → World → Prop} (ty : TypeId) (c cells : Array Value) (hi : (P.info? ty).map (·.size) = some cells.size) (hc : c.size = cells.size) (h1 : cells.all (·.oneCell') = true) (hgd : op.guard = none) (x y : Operand) (ho : op.op = .store ty x y)
    (hx : a.eval x = .pointer (some ⟨w.heap.size, 0, none⟩)) (hy : a.eval y = .agg cells)
    (h : wpList P ops Q rest (a.put op.dst undef) (w.alloc (.cells cells ty))) : wpList P ops Q (op :: rest) a (w.alloc (.cells c ty)) :=
  wpList_plain hgd fun _ hK => by
    unfold Oper.wp execOp
    simp only [ho, hx, hy, Instr.storeAt, Instr.sureAddr, Sem.run_bind, Sem.run_pure, Result.andThen_ok, run_storeVar_new w ty c cells hi hc h1]
    exact hK _ _ h
theorem made1 (n : Nat) : madeCells #[Value.int .u8 0] (n * 1) = (List.replicate n (Value.int .u8 0)).toArray := by
  apply Array.ext
  · simp [madeCells]
  · intro i h1 h2
    simp [madeCells, Nat.mod_one]
theorem make_u8 (n : Nat) (hn : n ≤ 1048576) (w : World) : (Instr.makeSlice 22 (.int .i64 n) (.int .i64 n)).run Tryd.prog w = .ok (.slice (some ⟨w.heap.size, 0, none⟩) n n) (w.alloc (.cells (List.replicate n (Value.int .u8 0)).toArray 5)) := by
  obtain ⟨i, hi, hz, hs, hb⟩ := info_parts (P := Tryd.prog) (e := 5) (z := .int .u8 0) (size := 1) (bytes := 1) (by kernel_rfl)
  have h := run_make (P := Tryd.prog) w 22 5 i _ Tryd.underlying22 hi hz .i64 .i64 n n (by omega) (by omega) (by rw [hb]; omega) (by omega)
  rw [h]
  simp only [Int.toNat_natCast, hs, Value.cells, made1]
theorem first_row {w : World} {v : Value} {O : List UInt8} {F : Asr} (h : Holds w (rowA 5 1 v O.length (bc O) * F)) : (Builtin.firstCells 1 O.length v).run Tryd.prog w = .ok (bc O).toArray w := by
  obtain ⟨ao, cap, rfl, -⟩ := rowA_slice h
  cases ao with
  | none =>
    have : O.length = 0 := by
      rcases Nat.eq_zero_or_pos O.length with h0 | h0
      · exact h0
      · obtain ⟨g, cp, e, -⟩ := rowA_cell h h0
        simp at e
    rw [run_firstCells_none, List.eq_nil_of_length_eq_zero this]
    rfl
  | some x =>
    refine run_firstCells_some w 1 O.length x O.length cap (bc O) (by simp [bc]) fun j u hu => ?_
    have hj : j < O.length := by have := (List.getElem?_eq_some_iff.1 hu).1; rw [bc_len] at this; exact this
    obtain ⟨g, cp, e, -, -, hc, -⟩ := rowA_cell h (by omega)
    simp only [Value.slice.injEq, Option.some.injEq] at e
    obtain ⟨rfl, -⟩ := e
    rw [Addr.add_lit, Nat.zero_add, hc j (by omega), hu]
def fnA (d : Nat) : Array Value := #[.func (.func 16) #[.pointer (some ⟨d, 0, none⟩)] #[], .func (.func 17) #[.pointer (some ⟨d, 0, none⟩)] #[], .func (.func 18) #[.pointer (some ⟨d, 0, none⟩)] #[], .func (.func 19) #[.pointer (some ⟨d, 0, none⟩)] #[], .func (.func 20) #[.pointer (some ⟨d, 0, none⟩)] #[], .func (.func 21) #[.pointer (some ⟨d, 0, none⟩)] #[]]
theorem row_zero2 {w : World} {T : TypeId} {n cap : Nat} {ao : Option Addr} {xs : List Value} {F : Asr} (h : Holds w (rowA T 1 (.slice ao n cap) n xs * F)) : Holds w (rowA T 1 (.slice ao 0 cap) 0 [] * F) := by
  rcases (rowA_cases h).2 with ⟨h1, -, h3⟩ | ⟨g2, cap2, cur, e, h1, h2, h3, -, h4⟩
  · simp only [Value.slice.injEq] at h1
    obtain ⟨rfl, -, rfl⟩ := h1
    exact rowA_nil h3
  · simp only [Value.slice.injEq, true_and] at e
    obtain ⟨rfl, rfl⟩ := e
    exact rowA_mk' h4 (Nat.zero_le _) h2 h3 (by simp)
theorem size_fn : (Tryd.prog.info? 50).map (·.size) = some 6 := by kernel_rfl
theorem feed_take (S S1 : DS) (O1 : List UInt8) (b : List UInt8) (u : Nat) (h : feedL S (b.take u) = (S1, O1, u)) (hu : u < b.length) (hn : ¬ stopped S1 = true) : feedL S (b.take (u + 1)) = ((dstep S1 b[u]).1, O1 ++ (dstep S1 b[u]).2, u + 1) := by
  rw [List.take_succ_eq_append_getElem hu, feed_app, h]
  simp only
  rw [feedL, if_neg hn]
  simp [feedL]
theorem feed_end (S S1 : DS) (O1 : List UInt8) (b : List UInt8) (u : Nat) (h : feedL S (b.take u) = (S1, O1, u)) (hs : stopped S1 = true ∨ u = b.length) : feedL S b = (S1, O1, u) := by
  rcases hs with hs | rfl
  · have := feed_app (b.take u) S (b.drop u)
    rw [List.take_append_drop, h] at this
    simp only at this
    rw [this, feed_stop hs]
    simp
  · rw [List.take_length] at h; exact h
set_option maxHeartbeats 16000000 in
theorem feed_calls (d : Nat) (S : DS) (O : List UInt8) (so : Option Addr) (n cap : Nat) (b : List UInt8) (F : Asr) (hb : SrcB F so n b) (hn9 : n ≤ 100000) (hV : KeepV F) (hS : OkS S) (w : World) (hw : Holds w (decA d S O * F)) :
    Calls Tryd.prog 7 #[.pointer (some ⟨d, 0, none⟩), .slice so n cap] w (FeedC d S b F w) := by
  obtain ⟨vo, vu, h1⟩ := dec_open hw
  have NC := Lib.hid (none_calls d S vo vu w (dec_f h1))
  have H1 := Lib.hid h1
  have HB := Lib.hid hb
  have HV := Lib.hid hV
  have HSS := Lib.hid hS
  have hlen := hb.len
  have HLEN := Lib.hid hlen
  clear hw h1 hb hV hS hlen
  go_enter Tryd.func7, Tryd.ntmps7
  go_wp2_with fail
  refine (NC.out).mono ?_
  rintro e w1 ⟨rfl, b1⟩
  have h2 := H1.out.grow b1
  have S2 := Lib.hid (Sm.of_below b1)
  obtain ⟨ao, cp, rfl, hcp⟩ := rowA_slice (h2.eqv (by ac_rfl : _ = rowA 5 1 vu O.length (bc O) * (pts d (.cells (cD S vo vu) 47 (0, 0)) * (rowA 5 1 vo S.own.length (bc S.own) * F))))
  obtain ⟨q0, q1, q2, q3, q4, q5, q6, q7, qfz, qlt⟩ := dec_f h2
  have H2 := Lib.hid h2
  clear h2 b1 NC H1
  go_wp2_with (refine wpList_store_new 50 #[.nilFunc, .nilFunc, .nilFunc, .nilFunc, .nilFunc, .nilFunc] (fnA d) size_fn rfl (by simp [fnA, Value.oneCell']) rfl _ _ rfl rfl rfl ?_)
  have h3 : Holds (w1.setCell ⟨d, 5, none⟩ (.slice ao 0 cp)) (pts d (.cells (cD S vo (.slice ao 0 cp)) 47 (0, 0)) * (rowA 5 1 vo S.own.length (bc S.own) * (rowA 5 1 (.slice ao O.length cp) O.length (bc O) * F))) := H2.out.store 5 (.slice ao 0 cp)
  have h4 := row_zero2 (h3.eqv (by ac_rfl : _ = rowA 5 1 (.slice ao O.length cp) O.length (bc O) * (pts d (.cells (cD S vo (.slice ao 0 cp)) 47 (0, 0)) * (rowA 5 1 vo S.own.length (bc S.own) * F))))
  have h5 := h4.alloc (.cells (fnA d) 50)
  rw [show (w1.setCell ⟨d, 5, none⟩ (.slice ao 0 cp)).heap.size = w1.heap.size by simp [World.setCell]] at h5
  have H3 : Hid (Holds ((w1.setCell ⟨d, 5, none⟩ (.slice ao 0 cp)).alloc (.cells (fnA d) 50)) (decA d S [] * (pts w1.heap.size (.cells #[.func (.func 16) #[.pointer (some ⟨d, 0, none⟩)] #[], .func (.func 17) #[.pointer (some ⟨d, 0, none⟩)] #[], .func (.func 18) #[.pointer (some ⟨d, 0, none⟩)] #[], .func (.func 19) #[.pointer (some ⟨d, 0, none⟩)] #[], .func (.func 20) #[.pointer (some ⟨d, 0, none⟩)] #[], .func (.func 21) #[.pointer (some ⟨d, 0, none⟩)] #[]] 50 (0, 0)) * F))) := dec_shut (vo := vo) (vu := .slice ao 0 cp) (h5.eqv (by unfold fnA; simp only [List.length_nil, show bc [] = [] from rfl]; ac_rfl))
  have S3 : Hid (Sm w ((w1.setCell ⟨d, 5, none⟩ (.slice ao 0 cp)).alloc (.cells (fnA d) 50))) := (S2.out.setCell _ _).alloc _
  obtain ⟨B8, hB8⟩ : ∃ z, w1.heap.size = z := ⟨_, rfl⟩
  rw [hB8] at H3 ⊢
  clear H2 S2 h3 h4 h5 q0 q1 q2 q3 q4 q5 q6 q7 qfz qlt hB8
  go_loopw [5] (fun x wl => ∃ (u : Nat) (S1 : DS) (O1 : List UInt8), x = .int .i64 u ∧ u ≤ n ∧ Hid (feedL S (b.take u) = (S1, O1, u)) ∧ Hid (OkS S1) ∧ Hid (Holds wl (decA d S1 O1 * (pts B8 (.cells #[.func (.func 16) #[.pointer (some ⟨d, 0, none⟩)] #[], .func (.func 17) #[.pointer (some ⟨d, 0, none⟩)] #[], .func (.func 18) #[.pointer (some ⟨d, 0, none⟩)] #[], .func (.func 19) #[.pointer (some ⟨d, 0, none⟩)] #[], .func (.func 20) #[.pointer (some ⟨d, 0, none⟩)] #[], .func (.func 21) #[.pointer (some ⟨d, 0, none⟩)] #[]] 50 (0, 0)) * F))) ∧ Hid (Sm w wl)) (fun x _ => n - (intOf x).toNat)
  case atStart => exact ⟨0, S, [], rfl, Nat.zero_le _, by show _ = _; simp [feedL], HSS.out, H3.out, S3.out⟩
  case round =>
    clear H3 S3
    obtain ⟨u, S1, O1, rfl, hu, HF1, HOK1, HH, HS⟩ := hrel
    obtain ⟨vo2, vu2, h4⟩ := dec_open HH.out
    obtain ⟨k0, k1, k2, k3, k4, k5, k6, k7, kfz, klt⟩ := dec_f h4
    have HO1 : Hid (O1.length ≤ 1048576) := by
      have := feed_out (b.take u) S
      rw [HF1.out] at this
      simp only [List.length_take] at this
      have hl := HLEN.out
      show _ ≤ _
      omega
    by_cases hgo : u < n ∧ stopped S1 = false
    · have hub : u < b.length := by rw [HLEN.out]; exact hgo.1
      obtain ⟨gb, ob, rfl, hcell⟩ := HB.out.cell (by omega)
      have cb := hcell _ wr (HH.out.eqv (by ac_rfl : _ = (decA d S1 O1 * pts B8 (.cells #[.func (.func 16) #[.pointer (some ⟨d, 0, none⟩)] #[], .func (.func 17) #[.pointer (some ⟨d, 0, none⟩)] #[], .func (.func 18) #[.pointer (some ⟨d, 0, none⟩)] #[], .func (.func 19) #[.pointer (some ⟨d, 0, none⟩)] #[], .func (.func 20) #[.pointer (some ⟨d, 0, none⟩)] #[], .func (.func 21) #[.pointer (some ⟨d, 0, none⟩)] #[]] 50 (0, 0))) * F)) u hub
      have hok := HOK1.out.resolve_left (by rw [hgo.2]; simp)
      have HF2 := Lib.hid (feed_take S S1 O1 b u HF1.out hub (by rw [hgo.2]; simp))
      obtain ⟨c, hc⟩ : ∃ c, b[u] = c := ⟨_, rfl⟩
      rw [hc] at cb HF2
      have HOK2 := Lib.hid (step_ok c hok)
      have hnd : S1.done = false := by have := hgo.2; unfold stopped at this; cases h : S1.done; rfl; rw [h] at this; simp at this
      have hne0 : S1.e = 0 := by have := hgo.2; unfold stopped at this; rw [hnd] at this; simpa using this
      rw [hnd] at k6
      rw [hne0] at k7
      have i0 : (0 : Int) ≤ (u : Int) := by omega
      have i1 : (u : Int) < (n : Int) := by omega
      have kc := (HH.out.eqv (by ac_rfl : _ = pts B8 (.cells #[.func (.func 16) #[.pointer (some ⟨d, 0, none⟩)] #[], .func (.func 17) #[.pointer (some ⟨d, 0, none⟩)] #[], .func (.func 18) #[.pointer (some ⟨d, 0, none⟩)] #[], .func (.func 19) #[.pointer (some ⟨d, 0, none⟩)] #[], .func (.func 20) #[.pointer (some ⟨d, 0, none⟩)] #[], .func (.func 21) #[.pointer (some ⟨d, 0, none⟩)] #[]] 50 (0, 0)) * (decA d S1 O1 * F))).cell
      have hst : S1.st = 0 ∨ S1.st = 1 ∨ S1.st = 2 ∨ S1.st = 3 ∨ S1.st = 4 ∨ S1.st = 5 := by have := hok.st; omega
      have hO1 := HO1.out
      have hin := hgo.1
      have HK := Lib.hid h4
      clear h4 hcell hc hnd hne0 hgo hub HF1 HOK1 HO1
      rcases hst with hst | hst | hst | hst | hst | hst
      · have HST : Hid (S1.st = 0) := hst
        have SC := Lib.hid (dsz_calls d S1 O1 c HST.out hok.sum hok.own _ (keepV_star HV.out) wr.drew HH.out.drew)
        have KX := kc 0
        rw [hst] at k1
        simp at KX
        clear hst kc hO1 hok
        go_wp2_with fail
        go_still_tail 10, (by kernel_rfl)
        go_wp2_with fail
        refine (SC.out).mono ?_
        rintro e w3 ⟨rfl, h3, s3⟩
        have H3 := Lib.hid h3
        have S3 : Hid (Sm w w3) := HS.out.drew.trans s3
        clear h3 s3 SC HH HS HK
        go_wp2_with fail
        go_roundw
        case rel => exact ⟨u + 1, _, _, by go_num, by omega, HF2.out, HOK2.out, H3.out, S3.out⟩
        case measure => simp [intOf]; omega

      · have HST : Hid (S1.st = 1) := hst
        have SC := Lib.hid (data_calls d S1 O1 c HST.out (hok.d1 HST.out) (by have := hok.left; omega) hO1 _ wr.drew HH.out.drew)
        have KX := kc 1
        rw [hst] at k1
        simp at KX
        clear hst kc hO1 hok
        go_wp2_with fail
        go_still_tail 10, (by kernel_rfl)
        go_wp2_with fail
        refine (SC.out).mono ?_
        rintro e w3 ⟨rfl, h3, s3⟩
        have H3 := Lib.hid h3
        have S3 : Hid (Sm w w3) := HS.out.drew.trans s3
        clear h3 s3 SC HH HS HK
        go_wp2_with fail
        go_roundw
        case rel => exact ⟨u + 1, _, _, by go_num, by omega, HF2.out, HOK2.out, H3.out, S3.out⟩
        case measure => simp [intOf]; omega

      · have HST : Hid (S1.st = 2) := hst
        have SC := Lib.hid (behind_calls d S1 O1 c HST.out hok.own _ wr.drew HH.out.drew)
        have KX := kc 2
        rw [hst] at k1
        simp at KX
        clear hst kc hO1 hok
        go_wp2_with fail
        go_still_tail 10, (by kernel_rfl)
        go_wp2_with fail
        refine (SC.out).mono ?_
        rintro e w3 ⟨rfl, h3, s3⟩
        have H3 := Lib.hid h3
        have S3 : Hid (Sm w w3) := HS.out.drew.trans s3
        clear h3 s3 SC HH HS HK
        go_wp2_with fail
        go_roundw
        case rel => exact ⟨u + 1, _, _, by go_num, by omega, HF2.out, HOK2.out, H3.out, S3.out⟩
        case measure => simp [intOf]; omega

      · have HST : Hid (S1.st = 3) := hst
        have SC := Lib.hid (fields_calls d S1 O1 c HST.out hok.own _ wr.drew HH.out.drew)
        have KX := kc 3
        rw [hst] at k1
        simp at KX
        clear hst kc hO1 hok
        go_wp2_with fail
        go_still_tail 10, (by kernel_rfl)
        go_wp2_with fail
        refine (SC.out).mono ?_
        rintro e w3 ⟨rfl, h3, s3⟩
        have H3 := Lib.hid h3
        have S3 : Hid (Sm w w3) := HS.out.drew.trans s3
        clear h3 s3 SC HH HS HK
        go_wp2_with fail
        go_roundw
        case rel => exact ⟨u + 1, _, _, by go_num, by omega, HF2.out, HOK2.out, H3.out, S3.out⟩
        case measure => simp [intOf]; omega

      · have HST : Hid (S1.st = 4) := hst
        have SC := Lib.hid (length_calls d S1 O1 c HST.out (hok.d4 HST.out) (by have := hok.left; omega) hO1 _ wr.drew HH.out.drew)
        have KX := kc 4
        rw [hst] at k1
        simp at KX
        clear hst kc hO1 hok
        go_wp2_with fail
        go_still_tail 10, (by kernel_rfl)
        go_wp2_with fail
        refine (SC.out).mono ?_
        rintro e w3 ⟨rfl, h3, s3⟩
        have H3 := Lib.hid h3
        have S3 : Hid (Sm w w3) := HS.out.drew.trans s3
        clear h3 s3 SC HH HS HK
        go_wp2_with fail
        go_roundw
        case rel => exact ⟨u + 1, _, _, by go_num, by omega, HF2.out, HOK2.out, H3.out, S3.out⟩
        case measure => simp [intOf]; omega

      · have HST : Hid (S1.st = 5) := hst
        have SC := Lib.hid (rest_calls d S1 O1 c HST.out hok.sum hO1 _ wr.drew HH.out.drew)
        have KX := kc 5
        rw [hst] at k1
        simp at KX
        clear hst kc hO1 hok
        go_wp2_with fail
        go_still_tail 10, (by kernel_rfl)
        go_wp2_with fail
        refine (SC.out).mono ?_
        rintro e w3 ⟨rfl, h3, s3⟩
        have H3 := Lib.hid h3
        have S3 : Hid (Sm w w3) := HS.out.drew.trans s3
        clear h3 s3 SC HH HS HK
        go_wp2_with fail
        go_roundw
        case rel => exact ⟨u + 1, _, _, by go_num, by omega, HF2.out, HOK2.out, H3.out, S3.out⟩
        case measure => simp [intOf]; omega
    · have hx : stopped S1 = true ∨ u = n := by
        rcases Nat.lt_or_ge u n with h | h
        · exact .inl (by cases hs : stopped S1; exact absurd ⟨h, hs⟩ hgo; rfl)
        · exact .inr (by omega)
      have HF := Lib.hid (feed_end S S1 O1 b u HF1.out (by rw [HLEN.out]; exact hx))
      have hcond : (u < n ∧ (S1.done = true ∨ S1.done = false ∧ S1.e ≠ 0)) ∨ u = n := by
        rcases hx with h | h
        · rcases Nat.lt_or_ge u n with h2 | h2
          · left
            refine ⟨h2, ?_⟩
            unfold stopped at h
            cases hd : S1.done
            · rw [hd] at h; right; exact ⟨rfl, by simpa using h⟩
            · exact .inl rfl
          · exact .inr (by omega)
        · exact .inr h
      obtain ⟨au, cu, rfl, -⟩ := rowA_slice (h4.eqv (by ac_rfl : _ = rowA 5 1 vu2 O1.length (bc O1) * (pts d (.cells (cD S1 vo2 vu2) 47 (0, 0)) * (rowA 5 1 vo2 S1.own.length (bc S1.own) * (pts B8 (.cells #[.func (.func 16) #[.pointer (some ⟨d, 0, none⟩)] #[], .func (.func 17) #[.pointer (some ⟨d, 0, none⟩)] #[], .func (.func 18) #[.pointer (some ⟨d, 0, none⟩)] #[], .func (.func 19) #[.pointer (some ⟨d, 0, none⟩)] #[], .func (.func 20) #[.pointer (some ⟨d, 0, none⟩)] #[], .func (.func 21) #[.pointer (some ⟨d, 0, none⟩)] #[]] 50 (0, 0)) * F)))))
      have MK := make_u8 O1.length HO1.out wr
      have h6 := h4.alloc (.cells (List.replicate O1.length (Value.int .u8 0)).toArray 5)
      have FR := first_row (h6.eqv (by ac_rfl : _ = rowA 5 1 (.slice au O1.length cu) O1.length (bc O1) * (pts wr.heap.size (.cells (List.replicate O1.length (Value.int .u8 0)).toArray 5 (0, 0)) * (pts d (.cells (cD S1 vo2 (.slice au O1.length cu)) 47 (0, 0)) * (rowA 5 1 vo2 S1.own.length (bc S1.own) * (pts B8 (.cells #[.func (.func 16) #[.pointer (some ⟨d, 0, none⟩)] #[], .func (.func 17) #[.pointer (some ⟨d, 0, none⟩)] #[], .func (.func 18) #[.pointer (some ⟨d, 0, none⟩)] #[], .func (.func 19) #[.pointer (some ⟨d, 0, none⟩)] #[], .func (.func 20) #[.pointer (some ⟨d, 0, none⟩)] #[], .func (.func 21) #[.pointer (some ⟨d, 0, none⟩)] #[]] 50 (0, 0)) * F))))))
      have CP : ∀ ty, (Builtin.copy_ #[22, 22] ty #[.slice (some ⟨wr.heap.size, 0, none⟩) O1.length O1.length, .slice au O1.length cu]).run Tryd.prog (wr.alloc (.cells (List.replicate O1.length (Value.int .u8 0)).toArray 5)) = .ok (goInt O1.length) ((wr.alloc (.cells (List.replicate O1.length (Value.int .u8 0)).toArray 5)).setRow wr.heap.size (bc O1).toArray) := by
        intro ty
        have h := run_copy_sep (P := Tryd.prog) (src := .slice au O1.length cu) (o := 0) (dl := O1.length) (dc := O1.length) (t := 22) (t' := 22) ty Tryd.underlying22 (fun w => by kernel_rfl) h6 (sl := O1.length) (n := O1.length) rfl (Nat.min_self _) FR (bc_len O1) (by intro v hv; obtain ⟨x, -, rfl⟩ := List.mem_map.1 hv; rfl) (by simp)
        simpa using h
      have h7 := h6.setRow (bc O1).toArray
      have f7 := dec_f ((h7.eqv (star_left_comm _ _ _)))
      obtain ⟨W7, hW7⟩ : ∃ W9, (wr.alloc (.cells (List.replicate O1.length (Value.int .u8 0)).toArray 5)).setRow wr.heap.size (bc O1).toArray = W9 := ⟨_, rfl⟩
      rw [hW7] at h7 f7
      have CP2 := Lib.hid CP
      have G6 : ∀ m, (W7.drewN m).cell? ⟨d, 6, none⟩ = some (.bool S1.done) := fun m => f7.c6
      have G7 : ∀ m, (W7.drewN m).cell? ⟨d, 7, none⟩ = some (.int .i64 S1.e) := fun m => f7.c7
      have H7 := Lib.hid h7
      have S7 : Hid (Sm w W7) := by rw [← hW7]; exact (HS.out.alloc _).setRow _ _
      have k5' := ((h6.eqv (star_left_comm _ _ _)).cell 5)
      simp [cD] at k5'
      have hdw : d ≠ wr.heap.size := by omega
      have HW7 := Lib.hid hW7
      clear hW7
      clear HF1 hx hgo h4 h6 h7 f7 FR CP
      rcases hcond with ⟨h1, h2 | ⟨h2, h3⟩⟩ | h1
      · have t1 : decide ((u : Int) < (n : Int)) = true := decide_eq_true (by omega)
        have t2 : decide (u < n) = true := decide_eq_true h1
        rw [h2] at k6
        go_wp2_with (first | (with_reducible refine wpList_make_run rfl _ _ _ rfl _ _ MK ?_) | (with_reducible refine wpList_copy_run rfl _ _ _ rfl _ _ (CP2.out _) ?_))
        simp only [Act.put, List.setIfInBounds_toArray, List.set_cons_zero, List.set_cons_succ]
        rw [HW7.out]
        go_quiet (fail)
        go_wp2_with fail
        refine bodyPost_ret (v := .tuple #[.slice (some ⟨wr.heap.size, 0, none⟩) O1.length O1.length, .int .i64 u, .bool true, .int .i64 S1.e]) (by simp [results, Tryd.results7]) rfl ?_
        have hx1 := dec_shut (S := S1) (vo := vo2) (vu := .slice au O1.length cu) ((H7.out.drewN nq).eqv (by ac_rfl : _ = pts d (.cells (cD S1 vo2 (.slice au O1.length cu)) 47 (0, 0)) * (rowA 5 1 vo2 S1.own.length (bc S1.own) * (rowA 5 1 (.slice au O1.length cu) O1.length (bc O1) * (pts wr.heap.size (.cells (bc O1).toArray 5 (0, 0)) * (pts B8 (.cells #[.func (.func 16) #[.pointer (some ⟨d, 0, none⟩)] #[], .func (.func 17) #[.pointer (some ⟨d, 0, none⟩)] #[], .func (.func 18) #[.pointer (some ⟨d, 0, none⟩)] #[], .func (.func 19) #[.pointer (some ⟨d, 0, none⟩)] #[], .func (.func 20) #[.pointer (some ⟨d, 0, none⟩)] #[], .func (.func 21) #[.pointer (some ⟨d, 0, none⟩)] #[]] 50 (0, 0)) * F))))))
        have hx2 := (hx1.eqv (by ac_rfl : _ = pts B8 (.cells #[.func (.func 16) #[.pointer (some ⟨d, 0, none⟩)] #[], .func (.func 17) #[.pointer (some ⟨d, 0, none⟩)] #[], .func (.func 18) #[.pointer (some ⟨d, 0, none⟩)] #[], .func (.func 19) #[.pointer (some ⟨d, 0, none⟩)] #[], .func (.func 20) #[.pointer (some ⟨d, 0, none⟩)] #[], .func (.func 21) #[.pointer (some ⟨d, 0, none⟩)] #[]] 50 (0, 0)) * (pts wr.heap.size (.cells (bc O1).toArray 5 (0, 0)) * (decA d S1 O1 * F)))).right
        unfold FeedC
        rw [HF.out]
        exact ⟨wr.heap.size, by rw [h2], hx2, S7.out.drewN nq⟩
      · have t1 : decide ((u : Int) < (n : Int)) = true := decide_eq_true (by omega)
        have t2 : decide (u < n) = true := decide_eq_true h1
        rw [h2] at k6
        have t3 : ((S1.e : Int) == 0) = false := beq_eq_false_iff_ne.2 (by omega)
        have t4 : (S1.e == 0) = false := beq_eq_false_iff_ne.2 h3
        go_wp2_with (first | (with_reducible refine wpList_make_run rfl _ _ _ rfl _ _ MK ?_) | (with_reducible refine wpList_copy_run rfl _ _ _ rfl _ _ (CP2.out _) ?_))
        simp only [Act.put, List.setIfInBounds_toArray, List.set_cons_zero, List.set_cons_succ]
        rw [HW7.out]
        go_quiet (fail)
        go_wp2_with fail
        refine bodyPost_ret (v := .tuple #[.slice (some ⟨wr.heap.size, 0, none⟩) O1.length O1.length, .int .i64 u, .bool false, .int .i64 S1.e]) (by simp [results, Tryd.results7]) rfl ?_
        have hx1 := dec_shut (S := S1) (vo := vo2) (vu := .slice au O1.length cu) ((H7.out.drewN nq).eqv (by ac_rfl : _ = pts d (.cells (cD S1 vo2 (.slice au O1.length cu)) 47 (0, 0)) * (rowA 5 1 vo2 S1.own.length (bc S1.own) * (rowA 5 1 (.slice au O1.length cu) O1.length (bc O1) * (pts wr.heap.size (.cells (bc O1).toArray 5 (0, 0)) * (pts B8 (.cells #[.func (.func 16) #[.pointer (some ⟨d, 0, none⟩)] #[], .func (.func 17) #[.pointer (some ⟨d, 0, none⟩)] #[], .func (.func 18) #[.pointer (some ⟨d, 0, none⟩)] #[], .func (.func 19) #[.pointer (some ⟨d, 0, none⟩)] #[], .func (.func 20) #[.pointer (some ⟨d, 0, none⟩)] #[], .func (.func 21) #[.pointer (some ⟨d, 0, none⟩)] #[]] 50 (0, 0)) * F))))))
        have hx2 := (hx1.eqv (by ac_rfl : _ = pts B8 (.cells #[.func (.func 16) #[.pointer (some ⟨d, 0, none⟩)] #[], .func (.func 17) #[.pointer (some ⟨d, 0, none⟩)] #[], .func (.func 18) #[.pointer (some ⟨d, 0, none⟩)] #[], .func (.func 19) #[.pointer (some ⟨d, 0, none⟩)] #[], .func (.func 20) #[.pointer (some ⟨d, 0, none⟩)] #[], .func (.func 21) #[.pointer (some ⟨d, 0, none⟩)] #[]] 50 (0, 0)) * (pts wr.heap.size (.cells (bc O1).toArray 5 (0, 0)) * (decA d S1 O1 * F)))).right
        unfold FeedC
        rw [HF.out]
        exact ⟨wr.heap.size, by rw [h2], hx2, S7.out.drewN nq⟩
      · have t1 : decide ((u : Int) < (n : Int)) = false := decide_eq_false (by omega)
        have t2 : decide (u < n) = false := decide_eq_false (by omega)
        go_wp2_with (first | (with_reducible refine wpList_make_run rfl _ _ _ rfl _ _ MK ?_) | (with_reducible refine wpList_copy_run rfl _ _ _ rfl _ _ (CP2.out _) ?_))
        simp only [Act.put, List.setIfInBounds_toArray, List.set_cons_zero, List.set_cons_succ]
        rw [HW7.out]
        go_quiet (fail)
        go_wp2_with fail
        refine bodyPost_ret (v := .tuple #[.slice (some ⟨wr.heap.size, 0, none⟩) O1.length O1.length, .int .i64 u, .bool S1.done, .int .i64 S1.e]) (by simp [results, Tryd.results7]) rfl ?_
        have hx1 := dec_shut (S := S1) (vo := vo2) (vu := .slice au O1.length cu) ((H7.out.drewN nq).eqv (by ac_rfl : _ = pts d (.cells (cD S1 vo2 (.slice au O1.length cu)) 47 (0, 0)) * (rowA 5 1 vo2 S1.own.length (bc S1.own) * (rowA 5 1 (.slice au O1.length cu) O1.length (bc O1) * (pts wr.heap.size (.cells (bc O1).toArray 5 (0, 0)) * (pts B8 (.cells #[.func (.func 16) #[.pointer (some ⟨d, 0, none⟩)] #[], .func (.func 17) #[.pointer (some ⟨d, 0, none⟩)] #[], .func (.func 18) #[.pointer (some ⟨d, 0, none⟩)] #[], .func (.func 19) #[.pointer (some ⟨d, 0, none⟩)] #[], .func (.func 20) #[.pointer (some ⟨d, 0, none⟩)] #[], .func (.func 21) #[.pointer (some ⟨d, 0, none⟩)] #[]] 50 (0, 0)) * F))))))
        have hx2 := (hx1.eqv (by ac_rfl : _ = pts B8 (.cells #[.func (.func 16) #[.pointer (some ⟨d, 0, none⟩)] #[], .func (.func 17) #[.pointer (some ⟨d, 0, none⟩)] #[], .func (.func 18) #[.pointer (some ⟨d, 0, none⟩)] #[], .func (.func 19) #[.pointer (some ⟨d, 0, none⟩)] #[], .func (.func 20) #[.pointer (some ⟨d, 0, none⟩)] #[], .func (.func 21) #[.pointer (some ⟨d, 0, none⟩)] #[]] 50 (0, 0)) * (pts wr.heap.size (.cells (bc O1).toArray 5 (0, 0)) * (decA d S1 O1 * F)))).right
        unfold FeedC
        rw [HF.out]
        exact ⟨wr.heap.size, rfl, hx2, S7.out.drewN nq⟩
#print axioms feed_calls
end Go.Proofs.YtibhnkkfaochhaaDoor.Dec
