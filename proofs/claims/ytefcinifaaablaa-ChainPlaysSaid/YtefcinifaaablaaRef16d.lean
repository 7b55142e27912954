/-
  Layer 16: the document's Read.
-/
import Derived.Test.YtefcinifaaablaaRef16b
namespace Go.Proofs.Ytefcinifaaablaa.Chain
open Go.RowKit Go.Sep
open Go.Proofs.Ytefcinifaaablaa.Slab (szOf ABlk u8s Src ReadA infoU8)
set_option maxRecDepth 100000
set_option linter.unusedVariables false
set_option linter.unusedSimpArgs false

def rreadC (R : RCh) (at_ n : Int) : Slab.Got :=
  if R.freed then ⟨[], 16⟩ else if at_ < 0 ∨ n < 0 ∨ (R.bytes.length : Int) < at_ ∨ (R.bytes.length : Int) - at_ < n then ⟨[], 2⟩ else ⟨(R.bytes.drop at_.toNat).take n.toNat, 0⟩
theorem run_append_no8 (g : Nat) (ty : TypeId) (w : World) (hg : w.heap[g]? = some (.cells #[] 5 (0, 0))) : (Builtin.append_ #[30, 30] ty #[.slice (some ⟨g, 0, none⟩) 0 0, .slice none 0 0]).run Try.prog w = .ok (.slice (some ⟨g, 0, none⟩) 0 0) w := by
  obtain ⟨i, hi, hz, hs, hb⟩ := info_parts (P := Try.prog) (e := 5) infoU8
  simp [Builtin.append_, run_underlying Try.underlying30, sizeOf, typeInfo, hi, Builtin.lenOf, Builtin.firstCells, loadCells, loadCellsFrom, storeCells]
set_option maxHeartbeats 4000000 in
theorem rread_calls (r y : Nat) (R : RCh) (F : Asr) (at_ n : Int) (w : World) (hb9 : R.bytes.length ≤ 1048576) (hw : Holds w (rcA r y R * F)) :
    Calls Try.prog 25 #[.pointer (some ⟨r, 0, none⟩), .int .i64 at_, .int .i64 n] w (ReadA (rreadC R at_ n).b (rreadC R at_ n).e (rcA r y R * F) w) := by
  have HW := Lib.hid hw
  obtain ⟨v, vb, h0⟩ := rc_open hw
  have h1 := h0.eqv (by unfold rbs; ac_rfl : _ = rowA 5 1 vb R.bytes.length (u8s R.bytes) * (rcH r y v vb R * (rls v R.l * F)))
  have CAS := (rowA_cases h1).2
  obtain ⟨bo, bcap, e2, hbc⟩ := rowA_slice h1
  subst e2
  have cs := rc_seen h0
  have x2 := cs.c2
  have x4 := cs.c4
  have xl := cs.lt
  obtain ⟨k, hk⟩ : ∃ q, R.bytes.length = q := ⟨_, rfl⟩
  rw [hk] at hb9 x2 hbc CAS h1
  have HK := Lib.hid hk
  have H1 := Lib.hid h1
  clear hw h0 cs h1
  cases hfr : R.freed with
  | true =>
    have RS : Hid (rreadC R at_ n = ⟨[], 16⟩) := by show _ = _; unfold rreadC; rw [if_pos hfr]
    rw [hfr] at x4
    clear hfr hk CAS
    go_enter Try.func25, Try.ntmps25
    go_wp2_with fail
    go_ret2
    rw [RS.out]
    exact ⟨_, rfl, rowA_nil HW.out, Sm.refl w⟩
  | false =>
    rw [hfr] at x4
    by_cases hbad : at_ < 0 ∨ n < 0 ∨ (k : Int) < at_ ∨ (k : Int) - at_ < n
    · have RS : Hid (rreadC R at_ n = ⟨[], 2⟩) := by show _ = _; unfold rreadC; rw [if_neg (by rw [hfr]; simp), if_pos (by rw [hk]; exact hbad)]
      clear hfr hk CAS
      by_cases d1 : at_ < 0
      · have e1 : decide (at_ < 0) = true := by simpa using d1
        clear hbad d1
        go_enter Try.func25, Try.ntmps25
        go_wp2_with fail
        go_ret2
        rw [RS.out]
        exact ⟨_, rfl, rowA_nil HW.out, Sm.refl w⟩
      · have e1 : decide (at_ < 0) = false := by simpa using d1
        by_cases d2 : n < 0
        · have e2 : decide (n < 0) = true := by simpa using d2
          clear hbad d1 d2
          go_enter Try.func25, Try.ntmps25
          go_wp2_with fail
          go_ret2
          rw [RS.out]
          exact ⟨_, rfl, rowA_nil HW.out, Sm.refl w⟩
        · have e2 : decide (n < 0) = false := by simpa using d2
          by_cases d3 : (k : Int) < at_
          · have e3 : decide ((k : Int) < at_) = true := by simpa using d3
            clear hbad d1 d2 d3
            go_enter Try.func25, Try.ntmps25
            go_wp2_with fail
            go_ret2
            rw [RS.out]
            exact ⟨_, rfl, rowA_nil HW.out, Sm.refl w⟩
          · have e3 : decide ((k : Int) < at_) = false := by simpa using d3
            have e4 : decide ((k : Int) - at_ < n) = true := by simp; omega
            have lw : IntKind.i64.wrap ((k : Int) - at_) = (k : Int) - at_ := IntWalk.i64_in _ (by omega)
            clear hbad d1 d2 d3
            go_enter Try.func25, Try.ntmps25
            go_wp2_with fail
            go_ret2
            rw [RS.out]
            exact ⟨_, rfl, rowA_nil HW.out, Sm.refl w⟩
    · obtain ⟨p, rfl⟩ := Int.eq_ofNat_of_zero_le (show 0 ≤ at_ by omega)
      obtain ⟨q, rfl⟩ := Int.eq_ofNat_of_zero_le (show 0 ≤ n by omega)
      have RS : Hid (rreadC R p q = ⟨(R.bytes.drop p).take q, 0⟩) := by show _ = _; unfold rreadC; rw [if_neg (by rw [hfr]; simp), if_neg (by rw [hk]; exact hbad)]; rfl
      have hpq : p + q ≤ k := by omega
      have e1 : decide ((p : Int) < 0) = false := by simp
      have e2 : decide ((q : Int) < 0) = false := by simp
      have e3 : decide ((k : Int) < (p : Int)) = false := by simp; omega
      have e3n : decide (k < p) = false := by simp; omega
      have e4 : decide ((k : Int) - (p : Int) < (q : Int)) = false := by simp; omega
      have lw : IntKind.i64.wrap ((k : Int) - (p : Int)) = (k : Int) - (p : Int) := IntWalk.i64_in _ (by omega)
      have lw2 : IntKind.i64.wrap ((p : Int) + (q : Int)) = (p : Int) + (q : Int) := IntWalk.i64_in _ (by omega)
      obtain ⟨E0, hE⟩ : ∃ z, w.heap.size = z := ⟨_, rfl⟩
      have HA := H1.out.alloc (.cells #[] 5)
      rw [hE] at HA
      have HE := Lib.hid (show Holds (w.alloc (.cells #[] 5)) (rowA 5 1 (.slice (some ⟨E0, 0, none⟩) 0 0) 0 [] * _) from rowA_mk' HA (Nat.le_refl _) (Nat.zero_le _) rfl rfl)
      have HAT := Lib.hid HA.at
      have S1 : Hid (Sm w (w.alloc (.cells #[] 5))) := (Sm.refl w).alloc _
      have x2' : (w.alloc (.cells #[] 5)).cell? ⟨r, 2, none⟩ = some (.slice bo k bcap) := (World.cell?_alloc_lt _ _ _ xl).trans x2
      have PL : Hid (((R.bytes.drop p).take q).length = q) := by show _ = _; rw [List.length_take, List.length_drop, HK.out]; omega
      have BK : Hid (∀ (wq : World) (v' : Value) (G : Asr), Holds wq (rowA 5 1 v' q (u8s ((R.bytes.drop p).take q)) * (rowA 5 1 (.slice bo k bcap) k (u8s R.bytes) * (rcH r y v (.slice bo k bcap) R * (rls v R.l * F)))) → Holds wq (rowA 5 1 v' ((R.bytes.drop p).take q).length (u8s ((R.bytes.drop p).take q)) * (rcA r y R * F))) := by
        intro wq v' G h
        rw [PL.out]
        have h2 := h.eqv (by ac_rfl : _ = rcH r y v (.slice bo k bcap) R * (rls v R.l * (rowA 5 1 (.slice bo k bcap) k (u8s R.bytes) * (rowA 5 1 v' q (u8s ((R.bytes.drop p).take q)) * F))))
        have h3 : Holds wq (rcH r y v (.slice bo k bcap) R * (rls v R.l * (rbs (.slice bo k bcap) R.bytes * (rowA 5 1 v' q (u8s ((R.bytes.drop p).take q)) * F)))) := by
          unfold rbs
          rw [HK.out]
          exact h2
        exact (rc_shut h3).eqv (star_left_comm _ _ _)
      clear hfr HA hbad hk
      rcases CAS with ⟨c1, c2, -⟩ | ⟨g, cp, cur, c1, c2, c3, c4, c5, c6⟩
      · simp only [Value.slice.injEq] at c1
        obtain ⟨rfl, -, rfl⟩ := c1
        subst c2
        obtain rfl : p = 0 := by omega
        obtain rfl : q = 0 := by omega
        have RS0 : Hid (rreadC R (0 : Nat) (0 : Nat) = ⟨[], 0⟩) := by show _ = _; rw [RS.out]; simp
        have HF := Lib.hid (BK.out _ (.slice (some ⟨E0, 0, none⟩) 0 0) emp (by simpa [u8s] using HE.out))
        clear BK RS H1 HE
        go_enter Try.func25, Try.ntmps25
        go_wp2_with (at_builtin; refine wpList_append_run rfl _ _ _ rfl _ _ (run_append_no8 E0 _ _ HAT.out) ?_)
        go_wp2_with fail
        go_ret2
        refine ⟨.slice (some ⟨E0, 0, none⟩) 0 0, ?_, ?_, S1.out⟩
        · first | (rw [RS0.out]; rfl) | (have := RS0.out; simp only [Int.ofNat_eq_natCast, Nat.cast_zero] at this ⊢; rw [this])
        · have hx := HF.out
          first | (rw [RS0.out]; simpa using hx) | (have := RS0.out; simp only [Int.ofNat_eq_natCast, Nat.cast_zero] at this ⊢; rw [this]; simpa using hx)
      · simp only [Value.slice.injEq] at c1
        obtain ⟨rfl, -, rfl⟩ := c1
        clear c4 c5 c6 cur
        have i1 : (p : Int) + (q : Int) ≤ (bcap : Int) := by omega
        have i2 : (p : Int) ≤ (p : Int) + (q : Int) := by omega
        have i3 : (0 : Int) ≤ (p : Int) := by omega
        have b9 : bcap ≤ maxLen := c3
        by_cases hst : bcap = p
        · have q0 : q = 0 := by omega
          subst q0
          have hst' := hst.symm
          subst hst'
          clear hst
          have NW : Hid (∀ j u, (u8s ((R.bytes.drop p).take 0))[j]? = some u → (w.alloc (.cells #[] 5)).cell? ((⟨g, 0, none⟩ : Addr).add j) = some u) := by
            intro j u hu
            have hj : j < 0 := by
              have := (List.getElem?_eq_some_iff.1 hu).1
              simp only [u8s, List.length_map, PL.out] at this
              exact this
            obtain ⟨g2, cap2, e2', -, hg2, hc2, -⟩ := rowA_cell H1.out (by omega : 0 < k)
            simp only [Value.slice.injEq, Option.some.injEq, Addr.mk.injEq] at e2'
            obtain ⟨⟨rfl, -, -⟩, -, -⟩ := e2'
            omega
          have NL : Hid ((u8s ((R.bytes.drop p).take 0)).length = 0 * 1) := by show _ = _; simp only [u8s, List.length_map, PL.out, Nat.mul_one]
          have NO : Hid (∀ u ∈ u8s ((R.bytes.drop p).take 0), u.oneCell' = true) := by intro u hu; obtain ⟨x, -, rfl⟩ := List.mem_map.1 hu; rfl
          have N1 : Hid (0 + 0 ≤ maxLen) := by show _ ≤ _; unfold maxLen; omega
          have N2 : Hid ((0 + 0) * 1 ≤ 140737488355328) := by show _ ≤ _; omega
          obtain ⟨pc, hpc⟩ : ∃ z, (R.bytes.drop p).take 0 = z := ⟨_, rfl⟩
          rw [hpc] at NW NL NO RS BK PL
          clear HAT H1 hpc
          go_enter Try.func25, Try.ntmps25
          go_wp2_with (at_builtin; refine wpList_append_sep rfl _ _ 30 rfl 5 (.int .u8 0) 1 1 Try.underlying30 infoU8 rfl rfl HE.out ⟨g, 0, none⟩ 0 0 (u8s pc) rfl NL.out NW.out NO.out N1.out N2.out ?_)
          intro v' w4 h4 s4 hz
          clear hz
          have SF := Lib.hid (S1.out.trans s4)
          try simp only [Nat.zero_add, List.nil_append] at h4
          have HF := Lib.hid (BK.out w4 v' emp h4)
          clear h4 s4
          go_wp2_with fail
          go_ret2
          rw [RS.out]
          exact ⟨_, rfl, HF.out, SF.out⟩
        · have hst2 : ¬ p = bcap := fun h => hst h.symm
          have nq1 : p + q - p = q := by omega
          have nq2 : ((p : Int) + (q : Int)).toNat = p + q := by omega
          have nq3 : ((p : Int) + (q : Int)).toNat - p = q := by omega
          have nq4 : (p : Int) + (q : Int) - (p : Int) = (q : Int) := by omega
          have NW : Hid (∀ j u, (u8s ((R.bytes.drop p).take q))[j]? = some u → (w.alloc (.cells #[] 5)).cell? ((⟨g, p, none⟩ : Addr).add j) = some u) := by
            intro j u hu
            have hj : j < q := by
              have := (List.getElem?_eq_some_iff.1 hu).1
              simp only [u8s, List.length_map, PL.out] at this
              exact this
            obtain ⟨g2, cap2, e2', -, hg2, hc2, -⟩ := rowA_cell H1.out (by omega : 0 < k)
            simp only [Value.slice.injEq, Option.some.injEq, Addr.mk.injEq] at e2'
            obtain ⟨⟨rfl, -, -⟩, -, -⟩ := e2'
            rw [Addr.add_lit, World.cell?_alloc_lt _ _ _ hg2, hc2 (p + j) (by omega)]
            have hu2 := hu
            simp only [u8s, List.map_take, List.map_drop, List.getElem?_take_of_lt hj, List.getElem?_drop] at hu2
            exact hu2
          have NL : Hid ((u8s ((R.bytes.drop p).take q)).length = q * 1) := by show _ = _; simp only [u8s, List.length_map, PL.out, Nat.mul_one]
          have NO : Hid (∀ u ∈ u8s ((R.bytes.drop p).take q), u.oneCell' = true) := by intro u hu; obtain ⟨x, -, rfl⟩ := List.mem_map.1 hu; rfl
          have N1 : Hid (0 + q ≤ maxLen) := by show _ ≤ _; unfold maxLen; omega
          have N2 : Hid ((0 + q) * 1 ≤ 140737488355328) := by show _ ≤ _; omega
          obtain ⟨pc, hpc⟩ : ∃ z, (R.bytes.drop p).take q = z := ⟨_, rfl⟩
          rw [hpc] at NW NL NO RS BK PL
          clear HAT H1 hpc
          go_enter Try.func25, Try.ntmps25
          go_wp2_with (at_builtin; refine wpList_append_sep rfl _ _ 30 rfl 5 (.int .u8 0) 1 1 Try.underlying30 infoU8 rfl rfl HE.out ⟨g, p, none⟩ q (bcap - p) (u8s pc) rfl NL.out NW.out NO.out N1.out N2.out ?_)
          intro v' w4 h4 s4 hz
          clear hz
          have SF := Lib.hid (S1.out.trans s4)
          try simp only [Nat.zero_add, List.nil_append] at h4
          have HF := Lib.hid (BK.out w4 v' emp h4)
          clear h4 s4
          go_wp2_with fail
          go_ret2
          rw [RS.out]
          exact ⟨_, rfl, HF.out, SF.out⟩
#print axioms rread_calls
end Go.Proofs.Ytefcinifaaablaa.Chain
