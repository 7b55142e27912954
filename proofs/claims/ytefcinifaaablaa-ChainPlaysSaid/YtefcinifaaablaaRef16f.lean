/-
  Layer 16: the document's Share.
-/
import Derived.Test.YtefcinifaaablaaRef16d
import Derived.Test.YtefcinifaaablaaReg
import Derived.Test.YtefcinifaaablaaRef16g
namespace Go.Proofs.Ytefcinifaaablaa.Chain
open Go.RowKit Go.Sep
open Go.Proofs.Ytefcinifaaablaa.Slab (infoU8 szOf szN szN_val clsFor ABlk allocA dropA holdA writeA readA Took u8s Src)
set_option maxRecDepth 100000
set_option linter.unusedVariables false
set_option linter.unusedSimpArgs false

def RShareC (X : Nat → Int) (r y : Nat) (R : RCh) (A : List (List ABlk)) (F : Asr) (w : World) (e : Ending) (w' : World) : Prop :=
  if R.freed then e = .returned (.tuple #[.pointer none, .int .i64 16]) ∧ Holds w' (rcA r y R * (RAr X y A * F)) ∧ Sm w w'
  else ∃ o, e = .returned (.tuple #[.pointer (some ⟨o, 0, none⟩), .int .i64 0]) ∧ Holds w' (rcA o y { R with shared := true } * (rcA r y { R with shared := true } * (RAr X y (holdsA A R.l) * F))) ∧ Sm w w'
set_option maxHeartbeats 4000000 in
theorem rshare_calls (X : Nat → Int) (r y : Nat) (R : RCh) (A : List (List ABlk)) (F : Asr) (w : World) (h9 : R.l.length ≤ 20000) (hb9 : R.bytes.length ≤ 1048576) (hw : Holds w (rcA r y R * (RAr X y A * F))) :
    Calls Try.prog 21 #[.pointer (some ⟨r, 0, none⟩)] w (RShareC X r y R A F w) := by
  have HW := Lib.hid hw
  obtain ⟨v, vb, h0⟩ := rc_open hw
  obtain ⟨ao, cap, e1, hcap⟩ := rowA_slice (h0.eqv (star_left_comm _ _ _))
  subst e1
  have cs := rc_seen h0
  have x4 := cs.c4
  have xl := cs.lt
  obtain ⟨m, hm⟩ : ∃ q, R.l.length = q := ⟨_, rfl⟩
  rw [hm] at h9
  have HM := Lib.hid hm
  have H0 : Hid (Holds w (rls (.slice ao m cap) R.l * (rcH r y (.slice ao m cap) vb R * (rbs vb R.bytes * (RAr X y A * F))))) := by
    show Holds _ _
    rw [← hm]
    exact h0.eqv (star_left_comm _ _ _)
  clear hw h0 cs hcap hm
  cases hfr : R.freed with
  | true =>
    have HFR := Lib.hid hfr
    rw [hfr] at x4
    clear hfr
    go_enter Try.func21, Try.ntmps21
    go_wp2_with fail
    go_ret2
    unfold RShareC
    rw [if_pos HFR.out]
    exact ⟨rfl, HW.out, Sm.refl w⟩
  | false =>
    have HFR := Lib.hid hfr
    rw [hfr] at x4
    clear hfr HW
    go_enter Try.func21, Try.ntmps21
    go_wp2_with fail
    go_loopw [4] (fun x wl => ∃ q : Nat, q ≤ m ∧ x = .int .i64 q ∧ Hid (Holds wl (rls (.slice ao m cap) R.l * (rcH r y (.slice ao m cap) vb R * (rbs vb R.bytes * (RAr X y (holdsA A (R.l.take q)) * F))))) ∧ Hid (Sm w wl)) (fun x _ => m - (intOf x).toNat)
    case atStart => exact ⟨0, Nat.zero_le _, rfl, H0.out, Sm.refl w⟩
    case round =>
      clear H0 x4 xl
      obtain ⟨q, hq, rfl, H3, S3⟩ := hrel
      have cs := rc_seen (H3.out.eqv (star_left_comm _ _ _))
      have c0 := cs.c0
      have c1 := cs.c1
      have cl := cs.lt
      by_cases hqm : q < m
      · have hql : q < R.l.length := by rw [HM.out]; exact hqm
        obtain ⟨g, cap2, e1, -, hg, hrc, -⟩ := rowL_cell H3.out hEnc_len q hql
        simp at e1
        obtain ⟨hao, -⟩ := e1
        have ND : Hid (holdH (holdsA A (R.l.take q)) R.l[q] = holdsA A (R.l.take (q + 1))) := by
          show _ = _
          rw [List.take_succ_eq_append_getElem hql]
          unfold holdsA
          rw [List.foldl_append]; rfl
        have GC : Hid (∀ (wq : World) (G : Asr), Holds wq (rls (.slice (some ⟨g, 0, none⟩) m cap) R.l * G) → wq.cell? ⟨g, q * 3, none⟩ = some (.int .i64 R.l[q].1) ∧ wq.cell? ⟨g, q * 3 + 1, none⟩ = some (.int .i64 R.l[q].2.1) ∧ wq.cell? ⟨g, q * 3 + 2, none⟩ = some (.int .i64 R.l[q].2.2)) := by
          intro wq G h
          obtain ⟨g2, cap3, e2, -, -, hc2, -⟩ := rowL_cell h hEnc_len q hql
          simp at e2
          obtain ⟨rfl, -⟩ := e2
          exact ⟨hc2 0 (by omega), hc2 1 (by omega), hc2 2 (by omega)⟩
        obtain ⟨⟨h0, h1, h2⟩, hh⟩ : ∃ z, R.l[q] = z := ⟨_, rfl⟩
        rw [hh] at ND
        simp only [hh] at GC
        have DR := Lib.hid (fun (wq : World) (G : Asr) h => r_hold X y (holdsA A (R.l.take q)) G h0 h1 h2 wq h)
        have ND2 : Hid ((holdA (holdsA A (R.l.take q)) h0 h1 h2).A = holdsA A (R.l.take (q + 1))) := ND.out
        have j0 : (0 : Int) ≤ (q : Int) := by omega
        have j1 : (q : Int) < (m : Int) := by omega
        subst hao
        clear hrc hh cs ND
        obtain ⟨P, hP⟩ : ∃ z, rls (.slice (some ⟨g, 0, none⟩) m cap) R.l * (rcH r y (.slice (some ⟨g, 0, none⟩) m cap) vb R * (rbs vb R.bytes * F)) = z := ⟨_, rfl⟩
        have HXP : Hid (Holds wr (RAr X y (holdsA A (R.l.take q)) * P)) := by show Holds _ _; rw [← hP]; exact H3.out.eqv (by ac_rfl)
        have PS : Hid (∀ (wq : World) (G : Asr), Holds wq (G * P) → wq.cell? ⟨r, 0, none⟩ = some (.pointer (some ⟨y, 0, none⟩)) ∧ wq.cell? ⟨r, 1, none⟩ = some (.slice (some ⟨g, 0, none⟩) m cap) ∧ wq.cell? ⟨g, q * 3, none⟩ = some (.int .i64 h0) ∧ wq.cell? ⟨g, q * 3 + 1, none⟩ = some (.int .i64 h1) ∧ wq.cell? ⟨g, q * 3 + 2, none⟩ = some (.int .i64 h2)) := by
          intro wq G h
          rw [← hP] at h
          have hv := rc_seen (h.eqv (by ac_rfl : _ = rcH r y (.slice (some ⟨g, 0, none⟩) m cap) vb R * (G * (rls (.slice (some ⟨g, 0, none⟩) m cap) R.l * (rbs vb R.bytes * F)))))
          obtain ⟨a0, a1, a2⟩ := GC.out wq _ (h.eqv (star_left_comm _ _ _))
          exact ⟨hv.c0, hv.c1, a0, a1, a2⟩
        have BK : Hid (∀ (wq : World) (A4 : List (List ABlk)), Holds wq (RAr X y A4 * P) → Holds wq (rls (.slice (some ⟨g, 0, none⟩) m cap) R.l * (rcH r y (.slice (some ⟨g, 0, none⟩) m cap) vb R * (rbs vb R.bytes * (RAr X y A4 * F))))) := by
          intro wq A4 h
          rw [← hP] at h
          exact h.eqv (by ac_rfl)
        have zz := PS.out wr _ HXP.out
        have S4 := Lib.hid S3.out
        clear hP H3 S3 GC
        go_upto_region 6 with (fail)
        go_region_held3 (fun w' => w'.cell? ⟨r, 0, none⟩ = some (.pointer (some ⟨y, 0, none⟩)) ∧ w'.cell? ⟨r, 1, none⟩ = some (.slice (some ⟨g, 0, none⟩) m cap) ∧ w'.cell? ⟨g, q * 3, none⟩ = some (.int .i64 h0) ∧ w'.cell? ⟨g, q * 3 + 1, none⟩ = some (.int .i64 h1) ∧ w'.cell? ⟨g, q * 3 + 2, none⟩ = some (.int .i64 h2)) (first | exact x2 | exact zz | go_keep) (first | (go_at_call 55; refine (DR.out _ P ?_).mono ?_; (exact HXP.out); rintro e w2 ⟨rfl, h2', s2⟩; have x2 := PS.out w2 _ h2'; have H2 := Lib.hid (BK.out w2 _ h2'); have S2 := Lib.hid (S4.out.drew.trans s2); clear h2' s2))
        rw [ND2.out] at H2
        go_wp2_with fail
        go_roundw
        case rel => exact ⟨q + 1, by omega, by go_num, H2.out, S2.out⟩
        case measure => simp [intOf]; omega
      · obtain rfl : m = q := by omega
        have ET : Hid (holdsA A (R.l.take m) = holdsA A R.l) := by show _ = _; rw [List.take_of_length_le (by rw [HM.out]; exact Nat.le_refl _)]
        rw [ET.out] at H3
        have hc := H3.out.eqv (star_left_comm _ _ _)
        have c3 := cs.c3
        have cf := hc.frozen 3
        have hst := Holds.store hc 3 (.bool true)
        have HST : Hid (Holds (wr.setCell ⟨r, 3, none⟩ (.bool true)) (rcH r y (.slice ao m cap) vb { R with shared := true } * (rls (.slice ao m cap) R.l * (rbs vb R.bytes * (RAr X y (holdsA A R.l) * F))))) := hst
        have S4 := Lib.hid (S3.out.setCell ⟨r, 3, none⟩ (.bool true))
        clear hc cs hst ET H3 S3
        go_upto_region 8 with (fail)
        obtain ⟨W, hW⟩ : ∃ z, wr.setCell ⟨r, 3, none⟩ (.bool true) = z := ⟨_, rfl⟩
        rw [hW] at HST S4 ⊢
        clear hW c0 c1 c3 cl cf
        have e3 := rowA_slice (HST.out.eqv (by unfold rbs; ac_rfl : _ = rowA 5 1 vb R.bytes.length (u8s R.bytes) * (rcH r y (.slice ao m cap) vb { R with shared := true } * (rls (.slice ao m cap) R.l * (RAr X y (holdsA A R.l) * F)))))
        obtain ⟨bo, bcap, rfl, -⟩ := e3
        obtain ⟨k, hk⟩ : ∃ q, R.bytes.length = q := ⟨_, rfl⟩
        have HK := Lib.hid hk
        obtain ⟨BS, hBS⟩ : ∃ q, rcH r y (.slice ao m cap) (.slice bo k bcap) { R with shared := true } * (RAr X y (holdsA A R.l) * F) = q := ⟨_, rfl⟩
        have HBS := Lib.hid hBS
        have HW0 : Hid (Holds W (rowA 117 3 (.slice ao m cap) m (R.l.flatMap hEnc) * (rowA 5 1 (.slice bo k bcap) k (u8s R.bytes) * BS))) := by
          show Holds _ _
          have h := HST.out
          unfold rls rowL rbs at h
          rw [HM.out, HK.out] at h
          rw [← hBS]
          exact h.eqv (by ac_rfl)
        have CELL : Hid (∀ (wq : World) (G : Asr), Holds wq (G * BS) → wq.cell? ⟨r, 0, none⟩ = some (.pointer (some ⟨y, 0, none⟩)) ∧ wq.cell? ⟨r, 1, none⟩ = some (.slice ao m cap) ∧ wq.cell? ⟨r, 2, none⟩ = some (.slice bo k bcap) ∧ r < wq.heap.size) := by
          intro wq G h
          rw [← hBS] at h
          have s := rc_seen (h.eqv (by ac_rfl : _ = rcH r y (.slice ao m cap) (.slice bo k bcap) { R with shared := true } * (G * (RAr X y (holdsA A R.l) * F))))
          exact ⟨s.c0, s.c1, s.c2, s.lt⟩
        rw [hk] at hb9
        have OA : Hid (∀ u ∈ R.l.flatMap hEnc, u.oneCell' = true) := by
          intro u hu
          obtain ⟨x, -, hx⟩ := List.mem_flatMap.1 hu
          simp only [hEnc, List.mem_cons, List.not_mem_nil, or_false] at hx
          rcases hx with rfl | rfl | rfl <;> rfl
        have OB : Hid (∀ u ∈ u8s R.bytes, u.oneCell' = true) := by intro u hu; obtain ⟨x, -, rfl⟩ := List.mem_map.1 hu; rfl
        have FIN : Hid (∀ (wq : World) (va vbb : Value) (O : Nat), Holds wq (pts O (.cells #[.pointer (some ⟨y, 0, none⟩), va, vbb, .bool true, .bool false] 46) * (rowA 5 1 vbb k (u8s R.bytes) * (rowA 5 1 (.slice bo k bcap) k (u8s R.bytes) * (rowA 117 3 va m (R.l.flatMap hEnc) * (rowA 117 3 (.slice ao m cap) m (R.l.flatMap hEnc) * BS))))) → Holds wq (rcA O y { R with shared := true } * (rcA r y { R with shared := true } * (RAr X y (holdsA A R.l) * F)))) := by
          intro wq va vbb O h
          rw [← HBS.out] at h
          have e : rcH O y va vbb { R with shared := true } = pts O (.cells #[.pointer (some ⟨y, 0, none⟩), va, vbb, .bool true, .bool false] 46) := by
            unfold rcH
            simp only [HFR.out]
          have e2 : ∀ z, rls z R.l = rowA 117 3 z m (R.l.flatMap hEnc) := by intro z; unfold rls rowL; rw [HM.out]
          have e3 : ∀ z, rbs z R.bytes = rowA 5 1 z k (u8s R.bytes) := by intro z; unfold rbs; rw [HK.out]
          rw [← e, ← e2, ← e2, ← e3, ← e3] at h
          have h2 : Holds wq (rcH r y (.slice ao m cap) (.slice bo k bcap) { R with shared := true } * (rls (.slice ao m cap) R.l * (rbs (.slice bo k bcap) R.bytes * (rcH O y va vbb { R with shared := true } * (rls va R.l * (rbs vbb R.bytes * (RAr X y (holdsA A R.l) * F))))))) := h.eqv (by ac_rfl)
          have h3 := rc_shut h2
          have h4 : Holds wq (rcH O y va vbb { R with shared := true } * (rls va R.l * (rbs vbb R.bytes * (rcA r y { R with shared := true } * (RAr X y (holdsA A R.l) * F))))) := h3.eqv (by ac_rfl)
          exact rc_shut h4
        have A1 : Hid (∀ gg, gg = W.heap.size → Holds (W.alloc (.cells #[] 117)).drew (rowA 117 3 (.slice (some ⟨gg, 0, none⟩) 0 0) 0 [] * (rowA 117 3 (.slice ao m cap) m (R.l.flatMap hEnc) * (rowA 5 1 (.slice bo k bcap) k (u8s R.bytes) * BS)))) := by
          rintro gg rfl
          exact rowA_mk' (cur := #[]) (Holds.alloc (w := W.drew) HW0.out (.cells #[] 117)) (Nat.le_refl _) (Nat.zero_le _) rfl rfl
        have A2 : Hid (∀ gg, gg = W.heap.size → Holds ((W.alloc (.cells #[] 117)).alloc (.cells #[] 5)).drew (rowA 117 3 (.slice (some ⟨gg, 0, none⟩) 0 0) 0 [] * (rowA 117 3 (.slice ao m cap) m (R.l.flatMap hEnc) * (pts (W.heap.size + 1) (.cells #[] 5) * (rowA 5 1 (.slice bo k bcap) k (u8s R.bytes) * BS))))) := by
          rintro gg rfl
          show Holds ((W.drew.alloc (.cells #[] 117)).alloc (.cells #[] 5)) _
          have h := (Holds.alloc (w := W.drew) HW0.out (.cells #[] 117)).alloc (.cells #[] 5)
          rw [World.size_alloc] at h
          exact rowA_mk' (cur := #[]) (h.eqv (by ac_rfl : _ = pts W.drew.heap.size (.cells #[] 117) * (rowA 117 3 (.slice ao m cap) m (R.l.flatMap hEnc) * (pts (W.drew.heap.size + 1) (.cells #[] 5) * (rowA 5 1 (.slice bo k bcap) k (u8s R.bytes) * BS))))) (Nat.le_refl _) (Nat.zero_le _) rfl rfl
        have A3 : Hid (∀ gg, gg = W.heap.size + 1 → Holds ((W.alloc (.cells #[] 5)).alloc (.cells #[] 117)).drew (rowA 117 3 (.slice (some ⟨gg, 0, none⟩) 0 0) 0 [] * (rowA 117 3 (.slice ao m cap) m (R.l.flatMap hEnc) * (pts (W.heap.size) (.cells #[] 5) * (rowA 5 1 (.slice bo k bcap) k (u8s R.bytes) * BS))))) := by
          rintro gg rfl
          show Holds ((W.drew.alloc (.cells #[] 5)).alloc (.cells #[] 117)) _
          have h := (Holds.alloc (w := W.drew) HW0.out (.cells #[] 5)).alloc (.cells #[] 117)
          rw [World.size_alloc] at h
          exact rowA_mk' (cur := #[]) (h.eqv (by ac_rfl : _ = pts (W.drew.heap.size + 1) (.cells #[] 117) * (rowA 117 3 (.slice ao m cap) m (R.l.flatMap hEnc) * (pts (W.drew.heap.size) (.cells #[] 5) * (rowA 5 1 (.slice bo k bcap) k (u8s R.bytes) * BS))))) (Nat.le_refl _) (Nat.zero_le _) rfl rfl
        have K1 : Hid (m ≤ maxLen) := by show _ ≤ _; unfold maxLen; omega
        have K2 : Hid (m * 24 ≤ 140737488355328) := by show _ ≤ _; omega
        have K3 : Hid (k ≤ maxLen) := by show _ ≤ _; unfold maxLen; omega
        have K4 : Hid (k * 1 ≤ 140737488355328) := by show _ ≤ _; omega
        obtain ⟨z0, z1, z2, zl⟩ := CELL.out W (rowA 117 3 (.slice ao m cap) m (R.l.flatMap hEnc) * rowA 5 1 (.slice bo k bcap) k (u8s R.bytes)) (HW0.out.eqv (by ac_rfl))
        clear hk hBS HST
        have zz : (fun w' => w'.cell? ⟨r, 0, none⟩ = some (.pointer (some ⟨y, 0, none⟩)) ∧ w'.cell? ⟨r, 1, none⟩ = some (.slice ao m cap) ∧ w'.cell? ⟨r, 2, none⟩ = some (.slice bo k bcap)) W := ⟨z0, z1, z2⟩
        clear z0 z1 z2
        go_region_held3 (fun w' => w'.cell? ⟨r, 0, none⟩ = some (.pointer (some ⟨y, 0, none⟩)) ∧ w'.cell? ⟨r, 1, none⟩ = some (.slice ao m cap) ∧ w'.cell? ⟨r, 2, none⟩ = some (.slice bo k bcap)) (first | exact xb | exact xa | exact zz | go_keep) (first | (refine step_append_dup (F := (rowA 5 1 (.slice bo k bcap) k (u8s R.bytes) * BS)) (g := W.heap.size) (cap := cap) (ao := ao) (by rfl) _ _ 44 (by rfl) 117 (.agg #[.int .i64 0, .int .i64 0, .int .i64 0]) 3 24 Try.underlying44 infoB (by rfl) (by rfl) (by rfl) (by with_reducible exact A1.out _ rfl) OA.out K1.out K2.out ?_; intro aoA capA wa ha sa; have x9 := CELL.out wa _ (ha.eqv (by ac_rfl : _ = ((rowA 117 3 (.slice aoA m capA) m (R.l.flatMap hEnc)) * (rowA 117 3 (.slice ao m cap) m (R.l.flatMap hEnc) * rowA 5 1 (.slice bo k bcap) k (u8s R.bytes))) * BS)); have xa := And.intro x9.1 (And.intro x9.2.1 x9.2.2.1); clear x9; have HB := Lib.hid (rowA_mk' (T := 5) (sz := 1) (n := 0) (cap := 0) (xs := []) (cur := #[]) ((ha.eqv (by ac_rfl : _ = rowA 5 1 (.slice bo k bcap) k (u8s R.bytes) * (rowA 117 3 (.slice aoA m capA) m (R.l.flatMap hEnc) * (rowA 117 3 (.slice ao m cap) m (R.l.flatMap hEnc) * BS)))).alloc (.cells #[] 5)) (Nat.le_refl _) (Nat.zero_le _) rfl rfl); have SA := Lib.hid (((S4.out.alloc (.cells #[] 117)).drew.trans sa).alloc (.cells #[] 5)); clear ha sa) | (refine step_append_dup (F := (pts (W.heap.size + 1) (.cells #[] 5) * (rowA 5 1 (.slice bo k bcap) k (u8s R.bytes) * BS))) (g := W.heap.size) (cap := cap) (ao := ao) (by rfl) _ _ 44 (by rfl) 117 (.agg #[.int .i64 0, .int .i64 0, .int .i64 0]) 3 24 Try.underlying44 infoB (by rfl) (by rfl) (by rfl) (by with_reducible exact A2.out _ rfl) OA.out K1.out K2.out ?_; intro aoA capA wa ha sa; have x9 := CELL.out wa _ (ha.eqv (by ac_rfl : _ = ((rowA 117 3 (.slice aoA m capA) m (R.l.flatMap hEnc)) * (rowA 117 3 (.slice ao m cap) m (R.l.flatMap hEnc) * (pts (W.heap.size + 1) (.cells #[] 5) * rowA 5 1 (.slice bo k bcap) k (u8s R.bytes)))) * BS)); have xa := And.intro x9.1 (And.intro x9.2.1 x9.2.2.1); clear x9; have HB := Lib.hid (rowA_mk' (T := 5) (sz := 1) (n := 0) (cap := 0) (xs := []) (cur := #[]) (ha.eqv (by ac_rfl : _ = pts (W.heap.size + 1) (.cells #[] 5) * (rowA 5 1 (.slice bo k bcap) k (u8s R.bytes) * (rowA 117 3 (.slice aoA m capA) m (R.l.flatMap hEnc) * (rowA 117 3 (.slice ao m cap) m (R.l.flatMap hEnc) * BS))))) (Nat.le_refl _) (Nat.zero_le _) rfl rfl); have SA := Lib.hid (((S4.out.alloc (.cells #[] 117)).alloc (.cells #[] 5)).drew.trans sa); clear ha sa) | (refine step_append_dup (F := (pts (W.heap.size) (.cells #[] 5) * (rowA 5 1 (.slice bo k bcap) k (u8s R.bytes) * BS))) (g := W.heap.size + 1) (cap := cap) (ao := ao) (by rfl) _ _ 44 (by rfl) 117 (.agg #[.int .i64 0, .int .i64 0, .int .i64 0]) 3 24 Try.underlying44 infoB (by rfl) (by rfl) (by rfl) (by with_reducible exact A3.out _ rfl) OA.out K1.out K2.out ?_; intro aoA capA wa ha sa; have x9 := CELL.out wa _ (ha.eqv (by ac_rfl : _ = ((rowA 117 3 (.slice aoA m capA) m (R.l.flatMap hEnc)) * (rowA 117 3 (.slice ao m cap) m (R.l.flatMap hEnc) * (pts (W.heap.size) (.cells #[] 5) * rowA 5 1 (.slice bo k bcap) k (u8s R.bytes)))) * BS)); have xa := And.intro x9.1 (And.intro x9.2.1 x9.2.2.1); clear x9; have HB := Lib.hid (rowA_mk' (T := 5) (sz := 1) (n := 0) (cap := 0) (xs := []) (cur := #[]) (ha.eqv (by ac_rfl : _ = pts (W.heap.size) (.cells #[] 5) * (rowA 5 1 (.slice bo k bcap) k (u8s R.bytes) * (rowA 117 3 (.slice aoA m capA) m (R.l.flatMap hEnc) * (rowA 117 3 (.slice ao m cap) m (R.l.flatMap hEnc) * BS))))) (Nat.le_refl _) (Nat.zero_le _) rfl rfl); have SA := Lib.hid (((S4.out.alloc (.cells #[] 5)).alloc (.cells #[] 117)).drew.trans sa); clear ha sa) | (refine step_append_dup (by rfl) _ _ 30 (by rfl) 5 (.int .u8 0) 1 1 Try.underlying30 infoU8 (by rfl) (by rfl) (by rfl) HB.out OB.out K3.out K4.out ?_; intro aoB capB wb hb sb; have x9 := CELL.out wb _ (hb.eqv (by ac_rfl : _ = ((rowA 5 1 (.slice aoB k capB) k (u8s R.bytes)) * (rowA 5 1 (.slice bo k bcap) k (u8s R.bytes) * (rowA 117 3 (.slice aoA m capA) m (R.l.flatMap hEnc) * rowA 117 3 (.slice ao m cap) m (R.l.flatMap hEnc)))) * BS)); have xb := And.intro x9.1 (And.intro x9.2.1 x9.2.2.1); clear x9; have SB := Lib.hid (SA.out.trans sb); have HBB := Lib.hid hb; clear hb sb))
        all_goals
          have HF := Lib.hid (FIN.out _ _ _ _ (HBB.out.alloc (.cells #[.pointer (some ⟨y, 0, none⟩), .slice aoA m capA, .slice aoB k capB, .bool true, .bool false] 46)))
          clear HBB HB
          go_wp2_with fail
          go_ret2
          unfold RShareC
          rw [if_neg (by rw [HFR.out]; simp)]
          exact ⟨_, rfl, HF.out, SB.out.alloc _⟩
#print axioms rshare_calls
end Go.Proofs.Ytefcinifaaablaa.Chain
