/-
  SlabFills, the walk.
-/
import Derived.Test.YtbmcfmcolhgibaaSlabFl
import Derived.Test.YtbmcfmcolhgibaaLawSlabGens
import Derived.StillTailTactics
namespace Go.Proofs.Ytbmcfmcolhgibaa.Slab
open Go.RowKit Go.Sep
set_option maxRecDepth 100000
set_option linter.unusedVariables false
set_option linter.unusedSimpArgs false

def x4n (c n : Nat) (j : Nat) : Int := if j = c then (n : Int) else 0
theorem x4_eq (c n : Nat) (hc : c < 4) : ∀ j, j < 4 → X4 (x4n c n 0) (x4n c n 1) (x4n c n 2) (x4n c n 3) j = if j = c then (n : Int) else 0 := by
  intro j hj
  have : j = 0 ∨ j = 1 ∨ j = 2 ∨ j = 3 := by omega
  rcases this with rfl | rfl | rfl | rfl <;> simp [X4, x4n]
theorem x4_bad (c n : Nat) (hc : c < 4) (hn : n ≤ 4096) : newBad (X4 (x4n c n 0) (x4n c n 1) (x4n c n 2) (x4n c n 3)) = 0 := by
  unfold newBad
  rw [if_neg, if_neg]
  · rintro ⟨j, h1, h2⟩; rw [x4_eq c n hc j h1] at h2; split at h2 <;> omega
  · rintro ⟨j, h1, h2⟩; rw [x4_eq c n hc j h1] at h2; split at h2 <;> omega
theorem cell4 (c n : Nat) (hc : c < 4) (v : Value) (hv : v = .int .i64 n) (j : Nat) (hj : j < 4) (h : j < ([Value.int .i64 0, .int .i64 0, .int .i64 0, .int .i64 0].set c v).length) : ([Value.int .i64 0, .int .i64 0, .int .i64 0, .int .i64 0].set c v)[j]'h = .int .i64 (x4n c n j) := by
  subst hv
  rw [List.getElem_set]
  unfold x4n
  by_cases e : c = j
  · rw [if_pos e, if_pos e.symm]
  · rw [if_neg e, if_neg (Ne.symm e)]
    have : j = 0 ∨ j = 1 ∨ j = 2 ∨ j = 3 := by omega
    rcases this with rfl | rfl | rfl | rfl <;> rfl

set_option maxHeartbeats 4000000 in
theorem fills_walk (class_ n : Int) (ao : Option Addr) (len cap : Nat) (zs : List Int) (w : World) (hrow : IsRow .i64 w ao len cap zs) :
    Calls Try.prog 4 #[.int .i64 class_, .int .i64 n, .slice ao len cap] w fun e w' => e = .returned (.bool true) ∧ Below w.heap.size w w' := by
  obtain ⟨c, hc, hc4, -⟩ := and3 class_
  obtain ⟨N, hN, hN2, -⟩ := and31 n
  have hrow' := Lib.hid hrow
  have g7 : (0 : Int) ≤ (c : Int) := by omega
  have g8 : (c : Int) < 4 := by omega
  have s0 := cell4 c (1 + N) hc4 (.int .i64 (1 + (N : Int))) (by simp) 0 (by omega)
  have s1 := cell4 c (1 + N) hc4 (.int .i64 (1 + (N : Int))) (by simp) 1 (by omega)
  have s2 := cell4 c (1 + N) hc4 (.int .i64 (1 + (N : Int))) (by simp) 2 (by omega)
  have s3 := cell4 c (1 + N) hc4 (.int .i64 (1 + (N : Int))) (by simp) 3 (by omega)
  have NW := Lib.hid (fun w F h => newA_calls (x4n c (1 + N) 0) (x4n c (1 + N) 1) (x4n c (1 + N) 2) (x4n c (1 + N) 3) F w h (x4_bad c (1 + N) hc4 (by omega)))
  clear hrow
  go_enter Try.func4, Try.ntmps4
  go_wp2_with fail
  clear s0 s1 s2 s3
  refine (NW.out _ _ ((holds_all w).alloc _).right).mono ?_
  rintro e w1 ⟨a, rfl, h1, s1⟩
  rw [new_fA hc4 _ (1 + N) (x4_eq c (1 + N) hc4)] at h1
  have H1 := Lib.hid h1
  have S1 : Hid (Sm w w1) := ((Sm.refl w).alloc _).trans s1
  clear NW h1 s1
  go_wp2_with fail
  go_loopw [10, 11] (fun v i wr => ∃ k : Nat, k ≤ 1 + N ∧ i = .int .i64 k ∧ Hid (Holds wr (Ar a (fA c (mk (szN c) (st1 (1 + N) k))) * (rowL 36 3 hEnc v (hls c (List.replicate k 1)) * all w))) ∧ Hid (Sm w wr)) (fun _ i _ => 1 + N - (intOf i).toNat)
  case atStart => exact ⟨0, Nat.zero_le _, rfl, by have := rowL_nil (T := 36) (sz := 3) (enc := hEnc) (H1.out.eqv (star_comm _ _)); exact this.eqv (by show _ * (_ * _) = _; simp only [st1, List.replicate_zero, List.nil_append, Nat.sub_zero]; ac_rfl), S1.out⟩
  case round =>
    clear H1 S1
    obtain ⟨k, hk, rfl, HH, HS⟩ := hrel
    by_cases hlt : k < 1 + N
    · have AL := Lib.hid (allocA_calls a _ _ (szOf c) wr HH.out)
      rw [fill_one hc4 (1 + N) k hlt] at AL
      obtain ⟨ao', cap', hv, hcap⟩ := rowA_slice (HH.out.eqv (star_left_comm _ _ _))
      rw [hls_len, List.length_replicate] at hv hcap
      subst hv
      have SZ := Lib.hid (fun w => sizes_calls c w)
      go_wp2_with fail
      refine (SZ.out _).mono ?_
      rintro e w2 ⟨rfl, rfl⟩
      go_wp2_with fail
      refine (AL.out).mono ?_
      rintro e w2 ⟨rfl, h2, s2⟩
      have H2 := Lib.hid h2
      have S2 := Lib.hid (HS.out.trans s2)
      clear h2 s2 HH HS AL SZ
      simp only [hdlV, hdl]
      have hap := (H2.out.eqv (star_left_comm _ _ _)).alloc (.cells #[.int .i64 c, .int .i64 k, .int .i64 1] 36)
      have HA := Lib.hid (((hap.alloc (.cells #[.int .i64 c, .int .i64 k, .int .i64 1] 36)).right).right)
      have HL : Hid ((hls c (List.replicate k 1)).length + 1 ≤ maxLen) := by show _ ≤ _; rw [hls_len, List.length_replicate]; unfold maxLen; omega
      have HL2 : Hid (((hls c (List.replicate k 1)).length + 1) * 24 ≤ 140737488355328) := by show _ ≤ _; rw [hls_len, List.length_replicate]; omega
      clear hap
      go_wp2_with (at_builtin; refine wpList_append_one (enc := hEnc) rfl _ _ 34 rfl 36 (.agg #[.int .i64 0, .int .i64 0, .int .i64 0]) 3 24 Try.underlying34 infoH rfl ((c : Int), (k : Int), 1) rfl HA.out ⟨w2.heap.size + 1, 0, none⟩ 1 rfl rfl (by have := cells_new (w2.alloc (.cells #[.int .i64 c, .int .i64 k, .int .i64 1] 36)) #[.int .i64 c, .int .i64 k, .int .i64 1] 36 _ rfl; rw [World.size_alloc] at this; exact this) (by simp [hEnc, Value.oneCell']) HL.out HL2.out ?_)
      intro v' w3 h3 s3
      have H3 : Hid (Holds w3 (Ar a (fA c (mk (szN c) (st1 (1 + N) (k + 1)))) * (rowL 36 3 hEnc v' (hls c (List.replicate (k + 1) 1)) * all w))) := by
        show Holds _ _; rw [hls_snoc]; exact h3.eqv (star_left_comm _ _ _)
      have S3 : Hid (Sm w w3) := ((S2.out.alloc _).alloc _).trans s3
      clear h3 s3 H2 S2 HA
      go_wp2_with fail
      go_roundw
      case rel => exact ⟨k + 1, by omega, by go_num, H3.out, S3.out⟩
      case measure => simp [intOf]; omega
    · obtain rfl : k = 1 + N := by omega
      rw [st1_full] at HH
      have AL := Lib.hid (allocA_calls a _ _ (szOf c) wr HH.out)
      rw [full_no hc4] at AL
      obtain ⟨ao', cap', hv, hcap⟩ := rowA_slice (HH.out.eqv (star_left_comm _ _ _))
      rw [hls_len, List.length_replicate] at hv hcap
      subst hv
      have SZ := Lib.hid (fun w => sizes_calls c w)
      go_wp2_with fail
      refine (SZ.out _).mono ?_
      rintro e w2 ⟨rfl, rfl⟩
      go_wp2_with fail
      refine (AL.out).mono ?_
      rintro e w2 ⟨rfl, h2, s2⟩
      have H2 := Lib.hid h2
      have S2 := Lib.hid (HS.out.trans s2)
      have LV := Lib.hid (fun (F : Asr) (w : World) (gs : List Int) (h : Holds w (Ar a (fA c (mk (szN c) (st2 gs))) * F)) (hn : gs.length = 1 + N) => (live_full hc4 gs).trans hn ▸ liveA_calls a (fA c (mk (szN c) (st2 gs))) F w c h)
      clear h2 s2 HH HS AL
      simp only [hdlV, hdl]
      have hb3 := LV.out _ _ _ ((H2.out.alloc (.cells #[.int .i64 0, .int .i64 0, .int .i64 0] 36)).right) (by simp)
      have HB3 := Lib.hid hb3
      clear hb3
      go_wp2_with fail
      refine (HB3.out).mono ?_
      rintro e w3 ⟨rfl, hb⟩
      have H3 : Hid (Holds w3 (Ar a (fA c (mk (szN c) (st2 (List.replicate (1 + N) 1)))) * (rowL 36 3 hEnc (.slice ao' (1 + N) cap') (hls c (List.replicate (1 + N) 1)) * all w))) := (((H2.out.alloc _).right).grow hb)
      have S3 : Hid (Sm w w3) := (S2.out.alloc _).grow hb
      clear hb H2 S2 HB3
      go_wp2_with fail
      go_loopw [16] (fun i wr => ∃ (j : Nat) (gs : List Int), j ≤ len ∧ j ≤ 50 ∧ i = .int .i64 j ∧ Hid (gs.length = 1 + N) ∧ Hid (∀ g ∈ gs, 1 ≤ g ∧ g ≤ 1 + j) ∧ Hid (Holds wr (Ar a (fA c (mk (szN c) (st2 gs))) * (rowL 36 3 hEnc (.slice ao' (1 + N) cap') (hls c gs) * all w))) ∧ Hid (Sm w wr)) (fun i _ => 50 - (intOf i).toNat)
      case atStart => exact ⟨0, _, Nat.zero_le _, Nat.zero_le _, rfl, by show _ = _; simp, (fun g hg => by rw [(List.mem_replicate.1 hg).2]; omega), H3.out, S3.out⟩
      case round =>
        clear H3 S3
        rename_i wq
        obtain ⟨j, gs, hj1, hj2, rfl, hgl, hgb, H3, S3⟩ := hrel
        by_cases hjl : j < len ∧ j < 50
        · obtain ⟨hja, hjb⟩ := hjl
          obtain ⟨ob, oo, rfl, hlc, hzl, hob, hcell, hwf⟩ := isrow_at hrow'.out (by omega)
          have hbel := Holds.below (H3.out.eqv (by ac_rfl : _ = (Ar a (fA c (mk (szN c) (st2 gs))) * rowL 36 3 hEnc (.slice ao' (1 + N) cap') (hls c gs)) * all w)) S3.out
          have c1 := (hbel.cell (p := ⟨ob, oo + j, none⟩) hob).trans (hcell j (by omega))
          obtain ⟨x, hx⟩ : ∃ x, zs.getD j 0 = x := ⟨_, rfl⟩
          rw [hx] at c1
          obtain ⟨q, hq⟩ : ∃ q, Int.tmod x (1 + (N : Int)) = q := ⟨_, rfl⟩
          have hq1 : q < 1 + (N : Int) := by rw [← hq]; exact Int.tmod_lt_of_pos x (by omega)
          have hq2 : -(1 + (N : Int)) < q := by rw [← hq]; exact Int.lt_tmod_of_pos x (by omega)
          obtain ⟨k, hk⟩ := Int.eq_ofNat_of_zero_le (Int.emod_nonneg (q + (1 + (N : Int))) (show (1 + (N : Int)) ≠ 0 by omega))
          have hk1 : (k : Int) < 1 + (N : Int) := by rw [← hk]; exact Int.emod_lt_of_pos _ (by omega)
          have hk2 : Int.tmod (q + (1 + (N : Int))) (1 + (N : Int)) = k := by rw [Int.tmod_eq_emod_of_nonneg (by omega)]; exact hk
          have hkl : k < gs.length := by have := hgl.out; omega
          obtain ⟨g, cap2, e1, -, hg, hrc, hfz⟩ := rowL_cell (H3.out.eqv (star_left_comm _ _ _)) hEnc_len k (by rw [hls_len]; exact hkl)
          rw [hls_len, hgl.out] at e1
          rw [hls_get] at hrc
          have k0 := hrc 0 (by omega)
          have k1 := hrc 1 (by omega)
          have k2 := hrc 2 (by omega)
          simp only [hEnc, Nat.add_zero, List.getElem?_cons_zero, List.getElem?_cons_succ] at k0 k1 k2
          obtain rfl : ao' = some ⟨g, 0, none⟩ := by simp at e1; exact e1.1
          have hgb1 := hgb.out gs[k] (List.getElem_mem _)
          have DR := Lib.hid (dropA_calls a _ _ c k gs[k] wr H3.out)
          rw [swap_drop hc4 gs k hkl] at DR
          have AL := swap_alloc hc4 gs k hkl (by omega) (by omega)
          have hls' := hls_set c gs k hkl (gs[k] + 1)
          have hgs' : Hid (∀ y ∈ gs.set k (gs[k] + 1), 1 ≤ y ∧ y ≤ 1 + ((j + 1 : Nat) : Int)) := by
            intro y hy
            rcases List.mem_or_eq_of_mem_set hy with h | h
            · have := hgb.out y h; omega
            · omega
          have AL' := Lib.hid AL
          have HLS := Lib.hid hls'
          have HK := Lib.hid hk
          obtain ⟨gk, hgk⟩ : ∃ y, gs[k] = y := ⟨_, rfl⟩
          rw [hgk] at DR AL' HLS hgs' k2 hgb1
          have HGK := Lib.hid hgk
          have g0 : (0 : Int) ≤ (k : Int) := by omega
          have j0 : (0 : Int) ≤ (j : Int) := by omega
          have j1 : (j : Int) < (len : Int) := by omega
          have j2 : decide ((j : Int) < 50) = true := by simp; omega
          clear hgk e1 hrc hx hbel hcell hwf AL hls' hgb hk hj1 hj2 hlc
          go_wp2_with fail
          refine (DR.out).mono ?_
          rintro e w4 ⟨rfl, h4, s4⟩
          have H4 := Lib.hid h4
          have S4 := Lib.hid (S3.out.trans s4)
          have AC := Lib.hid (AL'.out ▸ allocA_calls a _ _ (szOf c) w4 h4)
          clear h4 s4 DR AL' H3 S3
          go_wp2_with fail
          refine (SZ.out _).mono ?_
          rintro e w5 ⟨rfl, rfl⟩
          go_wp2_with fail
          refine (AC.out).mono ?_
          rintro e w5 ⟨rfl, h5, s5⟩
          have H5 := Lib.hid h5
          have S5 := Lib.hid (S4.out.trans s5)
          clear h5 s5 H4 S4 AC
          simp only [hdlV, hdl]
          obtain ⟨g', cap3, e1, -, hg5, hrc, hfz5⟩ := rowL_cell (H5.out.eqv (star_left_comm _ _ _)) hEnc_len k (by rw [hls_len]; exact hkl)
          rw [hls_get] at hrc
          rw [HGK.out] at hrc
          rw [hls_len, hgl.out] at e1
          have m2 := hrc 2 (by omega)
          simp only [hEnc, List.getElem?_cons_zero, List.getElem?_cons_succ] at m2
          obtain rfl : g = g' := by simp at e1; exact e1.1
          clear e1 hrc
          go_wp2_with fail
          have e1 : (gk + 1 != gk + 1) = false := by simp
          have e2 : ((k : Int) != (k : Int)) = false := by simp
          have F1 : (w5.alloc (.cells #[.int .i64 c, .int .i64 k, .int .i64 (gk + 1)] 36)).cell? ⟨g, k * 3 + 2, none⟩ = some (.int .i64 gk) := (World.cell?_alloc_lt _ _ ⟨g, _, none⟩ hg5).trans m2
          have HF1 := Lib.hid F1
          have HL5 := Lib.hid (((H5.out.alloc (.cells #[.int .i64 c, .int .i64 k, .int .i64 (gk + 1)] 36)).right))
          have HG5 := Lib.hid hg5
          have W1 : ∀ wq, Below (w5.heap.size + 1) (w5.alloc (.cells #[.int .i64 c, .int .i64 k, .int .i64 (gk + 1)] 36)) wq → wq.cell? ⟨g, k * 3 + 2, none⟩ = some (.int .i64 gk) ∧ wq.cell? ⟨w5.heap.size, 1, none⟩ = some (.int .i64 k) ∧ wq.cell? ⟨w5.heap.size, 2, none⟩ = some (.int .i64 (gk + 1)) := by
            intro wq hq
            refine ⟨(hq.cell (p := ⟨g, k * 3 + 2, none⟩) (by simp; omega)).trans F1, (hq.cell (p := ⟨w5.heap.size, 1, none⟩) (by simp)).trans (by rw [World.cell?_alloc_new]; rfl), (hq.cell (p := ⟨w5.heap.size, 2, none⟩) (by simp)).trans (by rw [World.cell?_alloc_new]; rfl)⟩
          have HW1 := Lib.hid W1
          clear F1 m2 W1
          have hwr : IntKind.i64.wrap (gk + 1) = gk + 1 := IntWalk.i64_in _ (by omega)
          refine wp_region_quiet (C := fun w' => Below (w5.heap.size + 1) (w5.alloc (.cells #[.int .i64 c, .int .i64 k, .int .i64 (gk + 1)] 36)) w') (by kernel_rfl) (by kernel_rfl) (Below.refl _ _).drew ?_
          repeat (refine wpQuiet_step (fun K hK => ?_); go_simp; first | (refine hK _ ?_; clear hK K) | (refine ⟨_, fun _ _ => rfl, hK _ ?_⟩; clear hK K) | (apply Exists.intro; refine ⟨fun wq hq => ?_, hK _ ?_⟩; (first | (obtain ⟨f1, f2, f3⟩ := HW1.out wq hq; first | (go_simp; done) | (go_simp; rfl)) | (go_at_call 19; refine (LV.out _ wq (gs.set k (gk + 1)) (HL5.out.grow (by simpa using hq)) (by rw [List.length_set]; exact hgl.out)).mono ?_; rintro e w'' ⟨rfl, hb'⟩; exact ⟨rfl, hq.trans (hb'.mono (by have := hq.size; simp at this; omega))⟩)); clear hK K))
          clear hwr
          refine wpQuiet_nil ?_
          intro w6 hq6
          have H6 := Lib.hid (HL5.out.grow (by simpa using hq6))
          have S6 : Hid (Sm w w6) := (S5.out.alloc _).grow hq6
          obtain ⟨f1, f2, f3⟩ := HW1.out w6 hq6
          have f0 : w6.cell? ⟨w5.heap.size, 0, none⟩ = some (.int .i64 c) := (hq6.cell (p := ⟨w5.heap.size, 0, none⟩) (by simp)).trans (by rw [World.cell?_alloc_new]; rfl)
          obtain ⟨g6, cap6, e6, -, hg6, hrc6, hfz6⟩ := rowL_cell (H6.out.eqv (star_left_comm _ _ _)) hEnc_len k (by rw [hls_len]; exact hkl)
          rw [hls_get] at hrc6
          rw [HGK.out] at hrc6
          rw [hls_len, hgl.out] at e6
          have m0 := hrc6 0 (by omega)
          have m1 := hrc6 1 (by omega)
          simp only [hEnc, Nat.add_zero, List.getElem?_cons_zero, List.getElem?_cons_succ] at m0 m1
          obtain rfl : g = g6 := by simp at e6; exact e6.1
          have z0 := hfz6 (k * 3)
          have z1 := hfz6 (k * 3 + 1)
          have z2 := hfz6 (k * 3 + 2)
          have hst : Holds w6 (rowL 36 3 hEnc (.slice (some ⟨g, 0, none⟩) (hls c gs).length cap') (hls c gs) * (Ar a (fA c (mk (szN c) (st2 (gs.set k (gk + 1))))) * all w)) := by
            rw [hls_len, hgl.out]; exact H6.out.eqv (star_left_comm _ _ _)
          have hst' := rowL_store3 hst hEnc_len k (by rw [hls_len]; exact hkl) ((c : Int), (k : Int), gk + 1) (.int .i64 c) (.int .i64 k) (.int .i64 (gk + 1)) rfl
          rw [← HLS.out, hls_len, hgl.out] at hst'
          have HST := Lib.hid (hst'.eqv (star_left_comm _ _ _))
          have HGS : Hid ((gs.set k (gk + 1)).length = 1 + N) := by show _ = _; rw [List.length_set]; exact hgl.out
          clear hrc6 e6 hfz6 hst hst'
          go_wp2_with fail
          go_roundw
          case rel => exact ⟨j + 1, _, by omega, by omega, by go_num, HGS.out, hgs'.out, HST.out, ((S6.out.setCell _ _).setCell _ _).setCell _ _⟩
          case measure => simp [intOf]; omega
        · have hbe := Holds.below (H3.out.eqv (by ac_rfl : _ = (Ar a (fA c (mk (szN c) (st2 gs))) * rowL 36 3 hEnc (.slice ao' (1 + N) cap') (hls c gs)) * all w)) S3.out
          have HBE := Lib.hid hbe
          clear hbe
          by_cases hja : j < len
          · have j1 : (j : Int) < (len : Int) := by omega
            have j2 : decide ((j : Int) < 50) = false := by simp; omega
            go_wp2_with fail
            go_ret
            exact ⟨rfl, HBE.out⟩
          · have j1 : ¬ (j : Int) < (len : Int) := by omega
            go_wp2_with fail
            go_ret
            exact ⟨rfl, HBE.out⟩
#print axioms fills_walk
end Go.Proofs.Ytbmcfmcolhgibaa.Slab
