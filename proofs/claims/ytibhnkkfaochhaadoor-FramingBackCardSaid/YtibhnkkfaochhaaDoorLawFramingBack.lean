/-
  FramingBack, the walk.
-/
import Derived.Test.YtibhnkkfaochhaaDoorBack2
import Derived.Deep.RegionWith
import Derived.Deep.DeepCutAuto
import Derived.Deep.CutBlock
import Derived.Deep.RegionLaw
namespace Go.Proofs.YtibhnkkfaochhaaDoor.Dec
open Go.RowKit Go.Sep
open Go.Proofs.YtibhnkkfaochhaaDoor.Tok
open Go.Proofs.YtibhnkkfaochhaaDoor.Fr (u8s last_calls)
set_option maxRecDepth 100000
set_option linter.unusedVariables false
set_option linter.unusedSimpArgs false

/-- the pieces -/
structure Pcs (w : World) (a : Option Addr) (n c : Nat) (pl : List (List UInt8)) : Prop where
  len : pl.length = n
  cell : 0 < n → ∃ g o, a = some ⟨g, o, none⟩ ∧ ∀ i (hi : i < pl.length), ∃ ai li ci, w.cell? ⟨g, o + i, none⟩ = some (.slice ai li ci) ∧ ByS w ai li ci pl[i]
def cutP (pl : List (List UInt8)) (i : Nat) : List (List UInt8) := (pl.take i).map fun p => p.take 300
theorem cutP_succ (pl : List (List UInt8)) (i : Nat) (hi : i < pl.length) : cutP pl (i + 1) = cutP pl i ++ [pl[i].take 300] := by
  unfold cutP
  rw [List.take_succ_eq_append_getElem hi, List.map_append]
  rfl
theorem cutP_len (pl : List (List UInt8)) (i : Nat) : (cutP pl i).length ≤ i := by simp [cutP]; omega
theorem cutP_le (pl : List (List UInt8)) (i : Nat) : ∀ p ∈ cutP pl i, p.length ≤ 300 := by
  intro p hp
  obtain ⟨q, -, rfl⟩ := List.mem_map.1 hp
  simp; omega
theorem chunkB_len (p : List UInt8) (h : p.length ≤ 300) : (chunkB p).length ≤ 310 := by
  unfold chunkB
  split
  · simp
  · rename_i hp
    have h0 : 0 < p.length := List.length_pos_iff.2 hp
    obtain ⟨-, -, f3, -⟩ := hex_facts p.length (by omega) h0
    simp
    omega
theorem chunksB_len : ∀ (ps : List (List UInt8)), (∀ p ∈ ps, p.length ≤ 300) → (chunksB ps).length ≤ 310 * ps.length
  | [], _ => by simp [chunksB]
  | p :: ps, h => by
    have h1 := chunkB_len p (h p (by simp))
    have h2 := chunksB_len ps (fun q hq => h q (by simp [hq]))
    simp only [chunksB, List.map_cons, List.flatten_cons, List.length_append, List.length_cons] at h2 ⊢
    omega
theorem flat_len : ∀ (ps : List (List UInt8)), (∀ p ∈ ps, p.length ≤ 300) → ps.flatten.length ≤ 310 * ps.length
  | [], _ => by simp
  | p :: ps, h => by
    have h1 := h p (by simp)
    have h2 := flat_len ps (fun q hq => h q (by simp [hq]))
    simp only [List.flatten_cons, List.length_append, List.length_cons] at h2 ⊢
    omega
theorem chunksB_snoc (ps : List (List UInt8)) (p : List UInt8) : chunksB (ps ++ [p]) = chunksB ps ++ chunkB p := by simp [chunksB]
theorem new20 : newD (2 : Int).toNat (0 : Int).toNat = ⟨0, 0, 0, [], false, 0⟩ := rfl
set_option maxHeartbeats 16000000 in
theorem back_walk (a : Option Addr) (n c : Nat) (pl : List (List UInt8)) (ao : Option Addr) (cl cc : Nat) (zs : List Int) (am : Option Addr) (lm cm : Nat) (M0 : List UInt8) (w : World)
    (hp : Pcs w a n c pl) (hz : IsRow .i64 w ao cl cc zs) (hcl : cl ≤ 140737488355328) (hm : ByS w am lm cm M0) (hV : Vars w) (hT : w.cell? ⟨5, 15, none⟩ = some (.int .u8 4)) :
    Calls Tryd.prog 5 #[.slice a n c, .slice ao cl cc, .slice am lm cm] w fun e w' => e = .returned (.bool true) ∧ Below w.heap.size w w' := by
  have HW := Lib.hid (holds_all w)
  have HP := Lib.hid hp
  have HZ := Lib.hid hz
  have HM := Lib.hid hm
  have HV := Lib.hid (keepV_all hV)
  have HT := Lib.hid hT
  clear hp hz hm hV hT
  have H0 : Hid (Holds w (rowA 5 1 (.slice none 0 0) ([] : List UInt8).length (bc []) * (rowA 5 1 (.slice none 0 0) ([] : List UInt8).length (bc []) * all w))) := rowA_nil (rowA_nil HW.out)
  go_enter Tryd.func5, Tryd.ntmps5
  go_wp2_with fail
  go_loopw [7, 8, 9] (fun x7 x8 x9 wl => ∃ i : Nat, x9 = .int .i64 i ∧ i ≤ n ∧ i ≤ 20 ∧ Hid (Holds wl (rowA 5 1 x7 (cutP pl i).flatten.length (bc (cutP pl i).flatten) * (rowA 5 1 x8 (chunksB (cutP pl i)).length (bc (chunksB (cutP pl i))) * all w))) ∧ Hid (Sm w wl)) (fun _ _ x9 _ => 20 - (intOf x9).toNat)
  case atStart => exact ⟨0, rfl, Nat.zero_le _, Nat.zero_le _, H0.out, Sm.refl _⟩
  case round =>
    obtain ⟨i, rfl, hi, hi20, HH, HS⟩ := hrel
    by_cases hgo : i < n ∧ i < 20
    · have hil : i < pl.length := by rw [HP.out.len]; exact hgo.1
      obtain ⟨g, o, rfl, hcell⟩ := HP.out.cell (by omega)
      obtain ⟨ai, li, ci, hc, hby⟩ := hcell i hil
      have c0 := all_cell (A := rowA 5 1 u7 (cutP pl i).flatten.length (bc (cutP pl i).flatten) * rowA 5 1 u8 (chunksB (cutP pl i)).length (bc (chunksB (cutP pl i)))) (HH.out.eqv (star_assoc _ _ _).symm) hc
      have HBY := Lib.hid hby
      have t1 : decide ((i : Int) < (n : Int)) = true := decide_eq_true (by omega)
      have t1' : decide (i < n) = true := decide_eq_true hgo.1
      have t2 : decide ((i : Int) < 20) = true := decide_eq_true (by omega)
      have t2' : decide (i < 20) = true := decide_eq_true hgo.2
      have i0 : (0 : Int) ≤ (i : Int) := by omega
      have i1 : (i : Int) < (n : Int) := by omega
      have hi9 := hgo.2
      have hin := hgo.1
      have CE := Lib.hid (cutP_succ pl i hil)
      obtain ⟨pi, hpi⟩ : ∃ q, pl[i] = q := ⟨_, rfl⟩
      rw [hpi] at HBY CE
      clear hcell hc hby hgo hpi hil
      go_upto_if 39 with (fail)
      go_cut [10] (fun x wc => ∃ m c9 : Nat, x = .slice ai m c9 ∧ wc = wr ∧ m ≤ 300 ∧ Hid (ByS w ai m c9 (pi.take 300)))
      case first =>
        by_cases h5 : 300 < li
        · have e0 : decide ((300 : Int) < (li : Int)) = true := by simp; omega
          have e1 : decide (300 < li) = true := by simpa using h5
          have e2 : (300 : Int) < (li : Int) := by omega
          have e3 : 300 ≤ ci := by have := HBY.out.cap; omega
          have e4 : (300 : Int) ≤ (ci : Int) := by omega
          have h5' := Lib.hid h5
          go_wp2_with fail
          go_meet
          case rel => exact ⟨300, ci, rfl, rfl, Nat.le_refl _, bys_cut HBY.out 300 ci (Nat.le_of_lt h5'.out) e3⟩
        · have e0 : decide ((300 : Int) < (li : Int)) = false := by simp; omega
          have e1 : decide (300 < li) = false := by simpa using h5
          have e2 : ¬ (300 : Int) < (li : Int) := by omega
          have h5' : Hid (li ≤ 300) := by show _ ≤ _; omega
          go_wp2_with fail
          go_meet
          case rel => exact ⟨li, ci, rfl, rfl, h5'.out, by have h := HBY.out; have hl := h.len; have h5 := h5'.out; rw [List.take_of_length_le (by omega)]; exact h⟩
      case rest =>
        obtain ⟨m, c9, rfl, rfl, hm9, HBP⟩ := hcut
        obtain ⟨p, hp⟩ : ∃ q, pi.take 300 = q := ⟨_, rfl⟩
        rw [hp] at HBP CE
        obtain ⟨ps, hps⟩ : ∃ q, cutP pl i = q := ⟨_, rfl⟩
        have FL : Hid (ps.flatten.length ≤ 310 * 20 ∧ (chunksB ps).length ≤ 310 * 20) := by
          have h1 := cutP_le pl i
          have h2 := cutP_len pl i
          rw [hps] at h1 h2
          have h3 := flat_len ps h1
          have h4 := chunksB_len ps h1
          show _ ∧ _
          omega
        rw [hps] at HH CE
        have CE2 : Hid ((cutP pl (i + 1)).flatten = ps.flatten ++ p ∧ chunksB (cutP pl (i + 1)) = chunksB ps ++ chunkB p) := by
          show _ ∧ _
          rw [CE.out, chunksB_snoc]
          simp
        obtain ⟨fl, hfl⟩ : ∃ q, ps.flatten = q := ⟨_, rfl⟩
        obtain ⟨cb, hcb⟩ : ∃ q, chunksB ps = q := ⟨_, rfl⟩
        rw [hfl, hcb] at HH CE2 FL
        clear hps hp HBY CE hfl hcb
        go_wp2_with (at_builtin; refine wpList_append_bs rfl _ _ rfl rfl HH.out ai m c9 rfl HBP.out.len (bys_cells HBP.out (A := rowA 5 1 u7 fl.length (bc fl) * rowA 5 1 u8 (cb).length (bc (cb))) (HH.out.eqv (star_assoc _ _ _).symm)) (by have := FL.out; omega) ?_)
        intro v7 w1 G7 hG7 h1 s1
        have S1 := Lib.hid (HS.out.trans s1)
        have CC := Lib.hid (chunkb_calls ai m c9 p w HBP.out hm9 (rowA 5 1 v7 G7.length (bc G7) * rowA 5 1 u8 (cb).length (bc (cb))) w1 HT.out (h1.eqv (star_assoc _ _ _).symm))
        have CL : Hid ((chunkB p).length ≤ 310) := chunkB_len p (by rw [HBP.out.len]; exact hm9)
        clear h1 s1 HH HS
        go_wp2_with fail
        refine (CC.out).mono ?_
        rintro e w2 ⟨vc, rfl, h2, s2⟩
        have S2 := Lib.hid (S1.out.trans s2)
        obtain ⟨so, cq, rfl, hle, hcells⟩ := row_cells h2
        have HC := Lib.hid hcells
        have H2 := Lib.hid (h2.eqv (by ac_rfl : _ = rowA 5 1 u8 (cb).length (bc (cb)) * (rowA 5 1 (.slice so (chunkB p).length cq) (chunkB p).length (bc (chunkB p)) * (rowA 5 1 v7 G7.length (bc G7) * all w))))
        clear h2 s2 hcells CC S1
        go_wp2_with (at_builtin; refine wpList_append_bs rfl _ _ rfl rfl H2.out so (chunkB p).length cq rfl rfl HC.out (by have := FL.out; have := CL.out; omega) ?_)
        intro v8 w3 G8 hG8 h3 s3
        have S3 := Lib.hid (S2.out.trans s3)
        have H3 : Hid (Holds w3 (rowA 5 1 v7 (cutP pl (i + 1)).flatten.length (bc (cutP pl (i + 1)).flatten) * (rowA 5 1 v8 (chunksB (cutP pl (i + 1))).length (bc (chunksB (cutP pl (i + 1)))) * all w))) := by
          have h4 := (h3.eqv (by ac_rfl : _ = rowA 5 1 (.slice so (chunkB p).length cq) (chunkB p).length (bc (chunkB p)) * (rowA 5 1 v7 G7.length (bc G7) * (rowA 5 1 v8 G8.length (bc G8) * all w)))).right
          rw [CE2.out.1, CE2.out.2, ← hG7.out, ← hG8.out]
          exact h4
        clear h3 s3 H2 HC S2 CL FL CE2 HBP
        go_wp2_with fail
        go_roundw
        case rel => exact ⟨i + 1, by go_num, by omega, by omega, H3.out, S3.out⟩
        case measure => simp [intOf]; omega
    · have hcond : (i < n ∧ i = 20) ∨ i = n := by omega
      obtain ⟨ps, hps⟩ : ∃ q, cutP pl i = q := ⟨_, rfl⟩
      have P1 := cutP_le pl i
      have P2 := cutP_len pl i
      rw [hps] at HH P1 P2
      have FL : Hid (ps.flatten.length ≤ 310 * 20 ∧ (chunksB ps).length ≤ 310 * 20) := by
        have h3 := flat_len ps P1
        have h4 := chunksB_len ps P1
        show _ ∧ _
        omega
      have PP1 := Lib.hid P1
      have PP2 : Hid (ps.length ≤ 20) := by show _ ≤ _; omega
      have LC := Lib.hid (last_calls _ wr HH.out)
      have PP3 := Lib.hid (feed_chunks ps 0 0)
      obtain ⟨fl, hfl⟩ : ∃ q, ps.flatten = q := ⟨_, rfl⟩
      obtain ⟨cb, hcb⟩ : ∃ q, chunksB ps = q := ⟨_, rfl⟩
      rw [hfl, hcb] at HH FL LC PP3
      have FE : Hid (∀ more, ∃ S', feedL ⟨0, 0, 0, [], false, 0⟩ (cb ++ lastB ++ more) = (S', fl, (cb ++ lastB).length) ∧ S'.done = true ∧ S'.e = 0) := fun more => PP3.out more PP1.out (by have := PP2.out; omega)
      clear P1 P2 hps hgo HP hfl hcb PP3 PP1 PP2
      rcases hcond with ⟨h1, h2⟩ | h2
      · have t1 : decide ((i : Int) < (n : Int)) = true := decide_eq_true (by omega)
        have t1' : decide (i < n) = true := decide_eq_true h1
        have t2 : decide ((i : Int) < 20) = false := decide_eq_false (by omega)
        have t2' : decide (i < 20) = false := decide_eq_false (by omega)
        clear h1 h2
        go_wp2_with fail
        refine (LC.out).mono ?_
        as_aux_lemma =>
        rintro e w1 ⟨gl, rfl, h1, s1⟩
        have S1 := Lib.hid (HS.out.trans s1)
        have H1 := Lib.hid (h1.eqv (by ac_rfl : _ = rowA 5 1 u8 cb.length (bc cb) * (pts gl (.cells (u8s [48, 13, 10, 13, 10]).toArray 5 (5, 6)) * (rowA 5 1 u7 fl.length (bc fl) * all w))))
        have LCL : Hid (0 < 5 → ∃ ad, some (⟨gl, 0, none⟩ : Addr) = some ad ∧ ∀ j u, (bc lastB)[j]? = some u → w1.cell? (ad.add j) = some u) := by
          intro _
          refine ⟨_, rfl, fun j u hu => ?_⟩
          rw [Addr.add_lit, Nat.zero_add, h1.cell]
          simpa [bc, lastB, u8s] using hu
        clear h1 s1 HH HS LC
        go_wp2_with (at_builtin; refine wpList_append_bs rfl _ _ rfl rfl H1.out (some ⟨gl, 0, none⟩) 5 5 (b := lastB) rfl rfl LCL.out (by have := FL.out; omega) ?_)
        intro v8 w2 G8 hG8 h2 s2
        obtain ⟨so8, cq8, rfl, -⟩ := rowA_slice h2
        have S2 := Lib.hid (S1.out.trans s2)
        have H2 := Lib.hid ((h2.eqv (star_left_comm _ _ _)).right)
        clear h2 s2 H1 S1 LCL
        go_upto_if 56 with (fail)
        go_cut [8] (fun x wc => ∃ (M W : List UInt8), Hid (W = cb ++ lastB ++ M ∧ M.length ≤ 1000) ∧ Hid (Holds wc (rowA 5 1 x W.length (bc W) * (rowA 5 1 u7 fl.length (bc fl) * all w))) ∧ Hid (Sm w wc))
        case first =>
          by_cases h5 : lm < 1000
          · have e0 : decide ((lm : Int) < 1000) = true := by simp; omega
            have e1 : decide (lm < 1000) = true := by simpa using h5
            have HL8 : Hid (G8.length + lm ≤ 1048576) := by
              have := FL.out
              have h8 := congrArg List.length hG8.out
              simp [lastB] at h8
              show _ ≤ _
              omega
            have h5' := Lib.hid h5
            go_wp2_with (at_builtin; refine wpList_append_bs rfl _ _ rfl rfl H2.out am lm cm rfl HM.out.len (bys_cells HM.out (A := rowA 5 1 (.slice so8 G8.length cq8) G8.length (bc G8) * rowA 5 1 u7 fl.length (bc fl)) (H2.out.eqv (star_assoc _ _ _).symm)) HL8.out ?_)
            intro v9 w3 G9 hG9 h3 s3
            have S3 := Lib.hid (S2.out.trans s3)
            have H3 := Lib.hid h3
            clear h3 s3
            go_wp2_with fail
            go_meet
            case rel => exact ⟨M0, G9, ⟨by rw [hG9.out, hG8.out], by rw [HM.out.len]; exact Nat.le_of_lt h5'.out⟩, H3.out, S3.out⟩
          · have e0 : decide ((lm : Int) < 1000) = false := by simp; omega
            have e1 : decide (lm < 1000) = false := by simpa using h5
            go_wp2_with fail
            go_meet
            case rel => exact ⟨[], G8, ⟨by rw [hG8.out, List.append_nil], by simp⟩, H2.out, S2.out⟩
        case rest =>
          obtain ⟨M, W, HWM, HX, SX⟩ := hcut
          have WL : 5 ≤ W.length ∧ W.length ≤ 7205 := by
            have h1 := congrArg List.length HWM.out.1
            have h2 := HWM.out.2
            have h3 := FL.out.2
            simp [lastB] at h1
            omega
          obtain ⟨gw, cw, rfl, hle, -, -, -⟩ := rowA_cell HX.out (by omega)
          obtain ⟨Sf, hfe, hfd, hf0⟩ := FE.out M
          rw [← HWM.out.1, ← hG8.out] at hfe
          have N1 := Lib.hid (new_fine 2 0 (by decide) _ wc HX.out)
          have HOK := Lib.hid (newR_ok 2 0 (by decide))
          rw [new20] at N1 HOK
          have hs0 : (⟨0, 0, 0, [], false, 0⟩ : DS).done = false := rfl
          obtain ⟨S0, hS0⟩ : ∃ q, (⟨0, 0, 0, [], false, 0⟩ : DS) = q := ⟨_, rfl⟩
          rw [hS0] at N1 HOK hfe hs0
          have HFE := Lib.hid hfe
          have HFD := Lib.hid hfd
          have HF0 := Lib.hid hf0
          have HS0 := Lib.hid hs0
          clear hfe hfd hf0 hS0 FE HWM H2 S2 hs0
          go_wp2_with fail
          refine (N1.out).mono ?_
          rintro e w5 ⟨d, rfl, h5, s5⟩
          have H5 := Lib.hid h5
          have S5 := Lib.hid (SX.out.trans s5)
          clear h5 s5 N1 HX SX
          go_wp2_with fail
          go_loopw [14, 15, 16, 17] (fun x14 x15 x16 x17 wl => ∃ (at_ i : Nat) (S1 : DS) (G O : List UInt8), x15 = .int .i64 at_ ∧ x16 = .bool S1.done ∧ x17 = .int .i64 i ∧ at_ ≤ W.length ∧ (i ≤ cl ∨ at_ = W.length ∨ S1.done = true) ∧ Hid (feedL S0 (W.take at_) = (S1, G, at_)) ∧ Hid (OkS S1) ∧ Hid (Holds wl (rowA 5 1 x14 G.length (bc G) * (decA d S1 O * (rowA 5 1 (.slice (some ⟨gw, 0, none⟩) W.length cw) W.length (bc W) * (rowA 5 1 u7 fl.length (bc fl) * all w))))) ∧ Hid (Sm w wl)) (fun _ _ _ x17 _ => cl + 1 - (intOf x17).toNat)
          case atStart => exact ⟨0, 0, S0, [], [], rfl, by rw [HS0.out], rfl, Nat.zero_le _, .inl (Nat.zero_le _), by show _ = _; simp [feedL], HOK.out, rowA_nil H5.out, S5.out⟩
          case round =>
            clear H5 S5
            obtain ⟨at_, i, S1, G, O, rfl, rfl, rfl, hat, hix, HF1, HOK1, HH, HS⟩ := hrel
            have GL : Hid (G.length ≤ 7205) := by
              have := feed_out (W.take at_) S0
              rw [HF1.out] at this
              simp only [List.length_take] at this
              show _ ≤ _
              omega
            by_cases hgo : at_ < W.length ∧ S1.done = false
            · have hic : i ≤ cl := by
                rcases hix with h | h | h
                · exact h
                · omega
                · rw [hgo.2] at h; cases h
              have he1 : S1.e = 0 := feed_pre HFE.out HF0.out at_ HF1.out
              have hns : stopped S1 = false := by unfold stopped; rw [hgo.2, he1]; rfl
              have hok := HOK1.out
              have PC := Lib.hid (piece_calls ao cl cc zs w HZ.out i at_ W.length (by omega) hat hic (rowA 5 1 u14 G.length (bc G) * (decA d S1 O * (rowA 5 1 (.slice (some ⟨gw, 0, none⟩) W.length cw) W.length (bc W) * rowA 5 1 u7 fl.length (bc fl)))) wr (HH.out.eqv (by ac_rfl)))
              rw [hgo.2]
              have i1 : decide ((at_ : Int) < (W.length : Int)) = true := decide_eq_true (by omega)
              have i1' : decide (at_ < W.length) = true := decide_eq_true (by omega)
              have hlt := hgo.1
              clear hgo hix he1
              go_wp2_with fail
              refine (PC.out).mono ?_
              rintro e w5b ⟨k, rfl, hk1, hk2, rfl⟩
              obtain ⟨to_, hto⟩ : ∃ q, at_ + k = q := ⟨_, rfl⟩
              rw [hto] at hk1 hk2 ⊢
              have hto2 : at_ ≤ to_ := by omega
              have FY := Lib.hid (feed_calls d S1 O (some ⟨gw, at_, none⟩) (to_ - at_) (cw - at_) ((W.drop at_).take (to_ - at_)) (rowA 5 1 (.slice (some ⟨gw, 0, none⟩) W.length cw) W.length (bc W) * (rowA 5 1 u14 G.length (bc G) * (rowA 5 1 u7 fl.length (bc fl) * all w))) (row_src rfl rfl at_ (to_ - at_) (by omega)) (by omega) (keepV_star (keepV_star (keepV_star HV.out))) hok w5b (HH.out.eqv (by ac_rfl)))
              rw [FeedC1] at FY
              have HOK2 := Lib.hid (feed_ok ((W.drop at_).take (to_ - at_)) S1 hok)
              have O2L := feed_out ((W.drop at_).take (to_ - at_)) S1
              have UA := feed_all ((W.drop at_).take (to_ - at_)) S1
              have UU := feed_used ((W.drop at_).take (to_ - at_)) S1
              obtain ⟨⟨S2, O2, u⟩, hF2⟩ : ∃ q, feedL S1 ((W.drop at_).take (to_ - at_)) = q := ⟨_, rfl⟩
              have HF2 := Lib.hid (feed_two HF1.out hF2 (by omega))
              rw [hF2] at FY HOK2 O2L UA UU
              simp only [List.length_take, List.length_drop] at O2L UA UU
              have he2 : S2.e = 0 := feed_pre HFE.out HF0.out (at_ + u) HF2.out
              have hd : S2.done = true ∨ (S2.done = false ∧ u = to_ - at_) := by
                cases h : S2.done
                · refine .inr ⟨rfl, ?_⟩
                  have := UA (by unfold stopped; rw [h, he2]; rfl)
                  omega
                · exact .inl rfl
              have hu9 : Hid (at_ + u ≤ W.length) := by show _ ≤ _; omega
              have hk1' := Lib.hid hk1
              have hk2' := Lib.hid hk2
              have i6 : IntKind.i64.wrap ((i : Int) + 1) = ((i + 1 : Nat) : Int) := by rw [IntWalk.i64_in _ (by omega)]; omega
              have i0 : (0 : Int) ≤ (at_ : Int) := by omega
              have i2 : (at_ : Int) ≤ (to_ : Int) := by omega
              have i3 : (to_ : Int) ≤ (cw : Int) := by omega
              have a1 : IntKind.i64.wrap ((to_ : Int) - (at_ : Int)) = ((to_ - at_ : Nat) : Int) := by rw [IntWalk.i64_in _ (by omega)]; omega
              clear UA hF2 hok HOK1 PC HF1 hns hto
              go_wp2_with fail
              refine (FY.out).mono ?_
              rintro e w6 ⟨go3, rfl, h6, s6⟩
              simp only at h6 ⊢
              rw [he2]
              rcases hd with hd | ⟨hd, hu⟩
              · rw [hd]
                have h7 := h6.eqv (by ac_rfl : _ = rowA 5 1 u14 G.length (bc G) * (pts go3 (.cells (bc O2).toArray 5 (0, 0)) * (decA d S2 O2 * (rowA 5 1 (.slice (some ⟨gw, 0, none⟩) W.length cw) W.length (bc W) * (rowA 5 1 u7 fl.length (bc fl) * all w)))))
                have H7 := Lib.hid h7
                have NW : Hid (0 < O2.length → ∃ ad, some (⟨go3, 0, none⟩ : Addr) = some ad ∧ ∀ j u, (bc O2)[j]? = some u → w6.cell? (ad.add j) = some u) := fun _ => ⟨_, rfl, blk_cell h6⟩
                have S6 := Lib.hid (HS.out.trans s6)
                clear h6 h7 s6 HH HS FY
                go_wp2_with (at_builtin; refine wpList_append_bs rfl _ _ rfl rfl H7.out (some ⟨go3, 0, none⟩) O2.length O2.length rfl rfl NW.out (by have := GL.out; omega) ?_)
                intro v14 w7 G9 hG9 h8 s8
                have H8 := Lib.hid ((h8.eqv (star_left_comm _ _ _)).right)
                have S8 := Lib.hid (S6.out.trans s8)
                clear h8 s8 H7 S6 NW
                go_wp2_with fail
                go_roundw
                case rel => exact ⟨at_ + u, i + 1, S2, G9, O2, by go_num, by rw [hd], by first | rfl | go_num, hu9.out, .inr (.inr hd), by have := HF2.out; rw [← hG9.out] at this; exact this, HOK2.out, H8.out, S8.out⟩
                case measure => simp [intOf]; omega
              · rw [hd]
                rw [← hu] at a1
                have h7 := h6.eqv (by ac_rfl : _ = rowA 5 1 u14 G.length (bc G) * (pts go3 (.cells (bc O2).toArray 5 (0, 0)) * (decA d S2 O2 * (rowA 5 1 (.slice (some ⟨gw, 0, none⟩) W.length cw) W.length (bc W) * (rowA 5 1 u7 fl.length (bc fl) * all w)))))
                have H7 := Lib.hid h7
                have NW : Hid (0 < O2.length → ∃ ad, some (⟨go3, 0, none⟩ : Addr) = some ad ∧ ∀ j u, (bc O2)[j]? = some u → w6.cell? (ad.add j) = some u) := fun _ => ⟨_, rfl, blk_cell h6⟩
                have S6 := Lib.hid (HS.out.trans s6)
                clear h6 h7 s6 HH HS FY
                go_wp2_with (at_builtin; refine wpList_append_bs rfl _ _ rfl rfl H7.out (some ⟨go3, 0, none⟩) O2.length O2.length rfl rfl NW.out (by have := GL.out; omega) ?_)
                intro v14 w7 G9 hG9 h8 s8
                have H8 := Lib.hid ((h8.eqv (star_left_comm _ _ _)).right)
                have S8 := Lib.hid (S6.out.trans s8)
                clear h8 s8 H7 S6 NW
                go_wp2_with fail
                go_roundw
                case rel => exact ⟨at_ + u, i + 1, S2, G9, O2, by go_num, by rw [hd], by first | rfl | go_num, hu9.out, (by by_cases hi2 : i + 1 ≤ cl; exact .inl hi2; exact .inr (.inl (by have h9 := hk2'.out (by omega); have h8 := hu9.out; omega))), by have := HF2.out; rw [← hG9.out] at this; exact this, HOK2.out, H8.out, S8.out⟩
                case measure => simp [intOf]; omega
            · have hx : S1.done = true ∨ at_ = W.length := by
                cases h : S1.done
                · right
                  have : ¬ at_ < W.length := fun h2 => hgo ⟨h2, h⟩
                  omega
                · exact .inl rfl
              have HE := feed_end S0 S1 G W at_ HF1.out (by rcases hx with h | h; exact .inl (stop_d h); exact .inr h)
              rw [HFE.out] at HE
              simp only [Prod.mk.injEq] at HE
              obtain ⟨rfl, rfl, rfl⟩ := HE
              have hd := HFD.out
              have CV := conv_rowA HH.out
              have CX := conv_rowA (HH.out.eqv (by ac_rfl : _ = rowA 5 1 u7 fl.length (bc fl) * (rowA 5 1 u14 fl.length (bc fl) * (decA d Sf O * (rowA 5 1 (.slice (some ⟨gw, 0, none⟩) W.length cw) W.length (bc W) * all w)))))
              obtain ⟨gs, hgs⟩ : ∃ q, sb fl = q := ⟨_, rfl⟩
              rw [hgs] at CV CX
              have FIN := Lib.hid (Holds.below (A := _ * _) (by have := HH.out; rw [← star_assoc, ← star_assoc, ← star_assoc] at this; exact this) HS.out)
              rw [hd]
              clear hx hgo HF1 HOK1 HH HS hgs hix HFE HF0 HFD
              by_cases hlt : G8.length < W.length
              · have i1 : decide ((G8.length : Int) < (W.length : Int)) = true := decide_eq_true (by omega)
                have i1' : decide (G8.length < W.length) = true := decide_eq_true hlt
                go_wp2_with fail
                go_ret
                exact ⟨rfl, FIN.out⟩
              · have i1 : decide ((G8.length : Int) < (W.length : Int)) = false := decide_eq_false (by omega)
                have i1' : decide (G8.length < W.length) = false := decide_eq_false hlt
                go_wp2_with fail
                go_ret
                exact ⟨rfl, FIN.out⟩
      · have t1 : decide ((i : Int) < (n : Int)) = false := decide_eq_false (by omega)
        have t1' : decide (i < n) = false := decide_eq_false (by omega)
        clear h2
        go_wp2_with fail
        refine (LC.out).mono ?_
        as_aux_lemma =>
        rintro e w1 ⟨gl, rfl, h1, s1⟩
        have S1 := Lib.hid (HS.out.trans s1)
        have H1 := Lib.hid (h1.eqv (by ac_rfl : _ = rowA 5 1 u8 cb.length (bc cb) * (pts gl (.cells (u8s [48, 13, 10, 13, 10]).toArray 5 (5, 6)) * (rowA 5 1 u7 fl.length (bc fl) * all w))))
        have LCL : Hid (0 < 5 → ∃ ad, some (⟨gl, 0, none⟩ : Addr) = some ad ∧ ∀ j u, (bc lastB)[j]? = some u → w1.cell? (ad.add j) = some u) := by
          intro _
          refine ⟨_, rfl, fun j u hu => ?_⟩
          rw [Addr.add_lit, Nat.zero_add, h1.cell]
          simpa [bc, lastB, u8s] using hu
        clear h1 s1 HH HS LC
        go_wp2_with (at_builtin; refine wpList_append_bs rfl _ _ rfl rfl H1.out (some ⟨gl, 0, none⟩) 5 5 (b := lastB) rfl rfl LCL.out (by have := FL.out; omega) ?_)
        intro v8 w2 G8 hG8 h2 s2
        obtain ⟨so8, cq8, rfl, -⟩ := rowA_slice h2
        have S2 := Lib.hid (S1.out.trans s2)
        have H2 := Lib.hid ((h2.eqv (star_left_comm _ _ _)).right)
        clear h2 s2 H1 S1 LCL
        go_upto_if 56 with (fail)
        go_cut [8] (fun x wc => ∃ (M W : List UInt8), Hid (W = cb ++ lastB ++ M ∧ M.length ≤ 1000) ∧ Hid (Holds wc (rowA 5 1 x W.length (bc W) * (rowA 5 1 u7 fl.length (bc fl) * all w))) ∧ Hid (Sm w wc))
        case first =>
          by_cases h5 : lm < 1000
          · have e0 : decide ((lm : Int) < 1000) = true := by simp; omega
            have e1 : decide (lm < 1000) = true := by simpa using h5
            have HL8 : Hid (G8.length + lm ≤ 1048576) := by
              have := FL.out
              have h8 := congrArg List.length hG8.out
              simp [lastB] at h8
              show _ ≤ _
              omega
            have h5' := Lib.hid h5
            go_wp2_with (at_builtin; refine wpList_append_bs rfl _ _ rfl rfl H2.out am lm cm rfl HM.out.len (bys_cells HM.out (A := rowA 5 1 (.slice so8 G8.length cq8) G8.length (bc G8) * rowA 5 1 u7 fl.length (bc fl)) (H2.out.eqv (star_assoc _ _ _).symm)) HL8.out ?_)
            intro v9 w3 G9 hG9 h3 s3
            have S3 := Lib.hid (S2.out.trans s3)
            have H3 := Lib.hid h3
            clear h3 s3
            go_wp2_with fail
            go_meet
            case rel => exact ⟨M0, G9, ⟨by rw [hG9.out, hG8.out], by rw [HM.out.len]; exact Nat.le_of_lt h5'.out⟩, H3.out, S3.out⟩
          · have e0 : decide ((lm : Int) < 1000) = false := by simp; omega
            have e1 : decide (lm < 1000) = false := by simpa using h5
            go_wp2_with fail
            go_meet
            case rel => exact ⟨[], G8, ⟨by rw [hG8.out, List.append_nil], by simp⟩, H2.out, S2.out⟩
        case rest =>
          obtain ⟨M, W, HWM, HX, SX⟩ := hcut
          have WL : 5 ≤ W.length ∧ W.length ≤ 7205 := by
            have h1 := congrArg List.length HWM.out.1
            have h2 := HWM.out.2
            have h3 := FL.out.2
            simp [lastB] at h1
            omega
          obtain ⟨gw, cw, rfl, hle, -, -, -⟩ := rowA_cell HX.out (by omega)
          obtain ⟨Sf, hfe, hfd, hf0⟩ := FE.out M
          rw [← HWM.out.1, ← hG8.out] at hfe
          have N1 := Lib.hid (new_fine 2 0 (by decide) _ wc HX.out)
          have HOK := Lib.hid (newR_ok 2 0 (by decide))
          rw [new20] at N1 HOK
          have hs0 : (⟨0, 0, 0, [], false, 0⟩ : DS).done = false := rfl
          obtain ⟨S0, hS0⟩ : ∃ q, (⟨0, 0, 0, [], false, 0⟩ : DS) = q := ⟨_, rfl⟩
          rw [hS0] at N1 HOK hfe hs0
          have HFE := Lib.hid hfe
          have HFD := Lib.hid hfd
          have HF0 := Lib.hid hf0
          have HS0 := Lib.hid hs0
          clear hfe hfd hf0 hS0 FE HWM H2 S2 hs0
          go_wp2_with fail
          refine (N1.out).mono ?_
          rintro e w5 ⟨d, rfl, h5, s5⟩
          have H5 := Lib.hid h5
          have S5 := Lib.hid (SX.out.trans s5)
          clear h5 s5 N1 HX SX
          go_wp2_with fail
          go_loopw [14, 15, 16, 17] (fun x14 x15 x16 x17 wl => ∃ (at_ i : Nat) (S1 : DS) (G O : List UInt8), x15 = .int .i64 at_ ∧ x16 = .bool S1.done ∧ x17 = .int .i64 i ∧ at_ ≤ W.length ∧ (i ≤ cl ∨ at_ = W.length ∨ S1.done = true) ∧ Hid (feedL S0 (W.take at_) = (S1, G, at_)) ∧ Hid (OkS S1) ∧ Hid (Holds wl (rowA 5 1 x14 G.length (bc G) * (decA d S1 O * (rowA 5 1 (.slice (some ⟨gw, 0, none⟩) W.length cw) W.length (bc W) * (rowA 5 1 u7 fl.length (bc fl) * all w))))) ∧ Hid (Sm w wl)) (fun _ _ _ x17 _ => cl + 1 - (intOf x17).toNat)
          case atStart => exact ⟨0, 0, S0, [], [], rfl, by rw [HS0.out], rfl, Nat.zero_le _, .inl (Nat.zero_le _), by show _ = _; simp [feedL], HOK.out, rowA_nil H5.out, S5.out⟩
          case round =>
            clear H5 S5
            obtain ⟨at_, i, S1, G, O, rfl, rfl, rfl, hat, hix, HF1, HOK1, HH, HS⟩ := hrel
            have GL : Hid (G.length ≤ 7205) := by
              have := feed_out (W.take at_) S0
              rw [HF1.out] at this
              simp only [List.length_take] at this
              show _ ≤ _
              omega
            by_cases hgo : at_ < W.length ∧ S1.done = false
            · have hic : i ≤ cl := by
                rcases hix with h | h | h
                · exact h
                · omega
                · rw [hgo.2] at h; cases h
              have he1 : S1.e = 0 := feed_pre HFE.out HF0.out at_ HF1.out
              have hns : stopped S1 = false := by unfold stopped; rw [hgo.2, he1]; rfl
              have hok := HOK1.out
              have PC := Lib.hid (piece_calls ao cl cc zs w HZ.out i at_ W.length (by omega) hat hic (rowA 5 1 u14 G.length (bc G) * (decA d S1 O * (rowA 5 1 (.slice (some ⟨gw, 0, none⟩) W.length cw) W.length (bc W) * rowA 5 1 u7 fl.length (bc fl)))) wr (HH.out.eqv (by ac_rfl)))
              rw [hgo.2]
              have i1 : decide ((at_ : Int) < (W.length : Int)) = true := decide_eq_true (by omega)
              have i1' : decide (at_ < W.length) = true := decide_eq_true (by omega)
              have hlt := hgo.1
              clear hgo hix he1
              go_wp2_with fail
              refine (PC.out).mono ?_
              rintro e w5b ⟨k, rfl, hk1, hk2, rfl⟩
              obtain ⟨to_, hto⟩ : ∃ q, at_ + k = q := ⟨_, rfl⟩
              rw [hto] at hk1 hk2 ⊢
              have hto2 : at_ ≤ to_ := by omega
              have FY := Lib.hid (feed_calls d S1 O (some ⟨gw, at_, none⟩) (to_ - at_) (cw - at_) ((W.drop at_).take (to_ - at_)) (rowA 5 1 (.slice (some ⟨gw, 0, none⟩) W.length cw) W.length (bc W) * (rowA 5 1 u14 G.length (bc G) * (rowA 5 1 u7 fl.length (bc fl) * all w))) (row_src rfl rfl at_ (to_ - at_) (by omega)) (by omega) (keepV_star (keepV_star (keepV_star HV.out))) hok w5b (HH.out.eqv (by ac_rfl)))
              rw [FeedC1] at FY
              have HOK2 := Lib.hid (feed_ok ((W.drop at_).take (to_ - at_)) S1 hok)
              have O2L := feed_out ((W.drop at_).take (to_ - at_)) S1
              have UA := feed_all ((W.drop at_).take (to_ - at_)) S1
              have UU := feed_used ((W.drop at_).take (to_ - at_)) S1
              obtain ⟨⟨S2, O2, u⟩, hF2⟩ : ∃ q, feedL S1 ((W.drop at_).take (to_ - at_)) = q := ⟨_, rfl⟩
              have HF2 := Lib.hid (feed_two HF1.out hF2 (by omega))
              rw [hF2] at FY HOK2 O2L UA UU
              simp only [List.length_take, List.length_drop] at O2L UA UU
              have he2 : S2.e = 0 := feed_pre HFE.out HF0.out (at_ + u) HF2.out
              have hd : S2.done = true ∨ (S2.done = false ∧ u = to_ - at_) := by
                cases h : S2.done
                · refine .inr ⟨rfl, ?_⟩
                  have := UA (by unfold stopped; rw [h, he2]; rfl)
                  omega
                · exact .inl rfl
              have hu9 : Hid (at_ + u ≤ W.length) := by show _ ≤ _; omega
              have hk1' := Lib.hid hk1
              have hk2' := Lib.hid hk2
              have i6 : IntKind.i64.wrap ((i : Int) + 1) = ((i + 1 : Nat) : Int) := by rw [IntWalk.i64_in _ (by omega)]; omega
              have i0 : (0 : Int) ≤ (at_ : Int) := by omega
              have i2 : (at_ : Int) ≤ (to_ : Int) := by omega
              have i3 : (to_ : Int) ≤ (cw : Int) := by omega
              have a1 : IntKind.i64.wrap ((to_ : Int) - (at_ : Int)) = ((to_ - at_ : Nat) : Int) := by rw [IntWalk.i64_in _ (by omega)]; omega
              clear UA hF2 hok HOK1 PC HF1 hns hto
              go_wp2_with fail
              refine (FY.out).mono ?_
              rintro e w6 ⟨go3, rfl, h6, s6⟩
              simp only at h6 ⊢
              rw [he2]
              rcases hd with hd | ⟨hd, hu⟩
              · rw [hd]
                have h7 := h6.eqv (by ac_rfl : _ = rowA 5 1 u14 G.length (bc G) * (pts go3 (.cells (bc O2).toArray 5 (0, 0)) * (decA d S2 O2 * (rowA 5 1 (.slice (some ⟨gw, 0, none⟩) W.length cw) W.length (bc W) * (rowA 5 1 u7 fl.length (bc fl) * all w)))))
                have H7 := Lib.hid h7
                have NW : Hid (0 < O2.length → ∃ ad, some (⟨go3, 0, none⟩ : Addr) = some ad ∧ ∀ j u, (bc O2)[j]? = some u → w6.cell? (ad.add j) = some u) := fun _ => ⟨_, rfl, blk_cell h6⟩
                have S6 := Lib.hid (HS.out.trans s6)
                clear h6 h7 s6 HH HS FY
                go_wp2_with (at_builtin; refine wpList_append_bs rfl _ _ rfl rfl H7.out (some ⟨go3, 0, none⟩) O2.length O2.length rfl rfl NW.out (by have := GL.out; omega) ?_)
                intro v14 w7 G9 hG9 h8 s8
                have H8 := Lib.hid ((h8.eqv (star_left_comm _ _ _)).right)
                have S8 := Lib.hid (S6.out.trans s8)
                clear h8 s8 H7 S6 NW
                go_wp2_with fail
                go_roundw
                case rel => exact ⟨at_ + u, i + 1, S2, G9, O2, by go_num, by rw [hd], by first | rfl | go_num, hu9.out, .inr (.inr hd), by have := HF2.out; rw [← hG9.out] at this; exact this, HOK2.out, H8.out, S8.out⟩
                case measure => simp [intOf]; omega
              · rw [hd]
                rw [← hu] at a1
                have h7 := h6.eqv (by ac_rfl : _ = rowA 5 1 u14 G.length (bc G) * (pts go3 (.cells (bc O2).toArray 5 (0, 0)) * (decA d S2 O2 * (rowA 5 1 (.slice (some ⟨gw, 0, none⟩) W.length cw) W.length (bc W) * (rowA 5 1 u7 fl.length (bc fl) * all w)))))
                have H7 := Lib.hid h7
                have NW : Hid (0 < O2.length → ∃ ad, some (⟨go3, 0, none⟩ : Addr) = some ad ∧ ∀ j u, (bc O2)[j]? = some u → w6.cell? (ad.add j) = some u) := fun _ => ⟨_, rfl, blk_cell h6⟩
                have S6 := Lib.hid (HS.out.trans s6)
                clear h6 h7 s6 HH HS FY
                go_wp2_with (at_builtin; refine wpList_append_bs rfl _ _ rfl rfl H7.out (some ⟨go3, 0, none⟩) O2.length O2.length rfl rfl NW.out (by have := GL.out; omega) ?_)
                intro v14 w7 G9 hG9 h8 s8
                have H8 := Lib.hid ((h8.eqv (star_left_comm _ _ _)).right)
                have S8 := Lib.hid (S6.out.trans s8)
                clear h8 s8 H7 S6 NW
                go_wp2_with fail
                go_roundw
                case rel => exact ⟨at_ + u, i + 1, S2, G9, O2, by go_num, by rw [hd], by first | rfl | go_num, hu9.out, (by by_cases hi2 : i + 1 ≤ cl; exact .inl hi2; exact .inr (.inl (by have h9 := hk2'.out (by omega); have h8 := hu9.out; omega))), by have := HF2.out; rw [← hG9.out] at this; exact this, HOK2.out, H8.out, S8.out⟩
                case measure => simp [intOf]; omega
            · have hx : S1.done = true ∨ at_ = W.length := by
                cases h : S1.done
                · right
                  have : ¬ at_ < W.length := fun h2 => hgo ⟨h2, h⟩
                  omega
                · exact .inl rfl
              have HE := feed_end S0 S1 G W at_ HF1.out (by rcases hx with h | h; exact .inl (stop_d h); exact .inr h)
              rw [HFE.out] at HE
              simp only [Prod.mk.injEq] at HE
              obtain ⟨rfl, rfl, rfl⟩ := HE
              have hd := HFD.out
              have CV := conv_rowA HH.out
              have CX := conv_rowA (HH.out.eqv (by ac_rfl : _ = rowA 5 1 u7 fl.length (bc fl) * (rowA 5 1 u14 fl.length (bc fl) * (decA d Sf O * (rowA 5 1 (.slice (some ⟨gw, 0, none⟩) W.length cw) W.length (bc W) * all w)))))
              obtain ⟨gs, hgs⟩ : ∃ q, sb fl = q := ⟨_, rfl⟩
              rw [hgs] at CV CX
              have FIN := Lib.hid (Holds.below (A := _ * _) (by have := HH.out; rw [← star_assoc, ← star_assoc, ← star_assoc] at this; exact this) HS.out)
              rw [hd]
              clear hx hgo HF1 HOK1 HH HS hgs hix HFE HF0 HFD
              by_cases hlt : G8.length < W.length
              · have i1 : decide ((G8.length : Int) < (W.length : Int)) = true := decide_eq_true (by omega)
                have i1' : decide (G8.length < W.length) = true := decide_eq_true hlt
                go_wp2_with fail
                go_ret
                exact ⟨rfl, FIN.out⟩
              · have i1 : decide ((G8.length : Int) < (W.length : Int)) = false := decide_eq_false (by omega)
                have i1' : decide (G8.length < W.length) = false := decide_eq_false hlt
                go_wp2_with fail
                go_ret
                exact ⟨rfl, FIN.out⟩
#print axioms back_walk
end Go.Proofs.YtibhnkkfaochhaaDoor.Dec
