/-
  FramingReads: the document's Feed.
-/
import Derived.Test.YtibhnkkfaochhaaDoorRDec3
import Derived.Deep.RegionWith
namespace Go.Proofs.YtibhnkkfaochhaaDoor.Dec
open Go.RowKit Go.Sep
open Go.Proofs.YtibhnkkfaochhaaDoor.Tok
set_option maxRecDepth 100000
set_option linter.unusedVariables false
set_option linter.unusedSimpArgs false

theorem dst5 (left sum : Nat) (ow : List UInt8) (c : UInt8) : dstep ⟨5, left, sum, ow, false, 0⟩ c = if sum = 1048576 then (⟨5, left, sum, ow, false, 3⟩, []) else (⟨5, left, sum + 1, ow, false, 0⟩, [c]) := by unfold dstep; simp
theorem dst4 (left sum : Nat) (ow : List UInt8) (c : UInt8) : dstep ⟨4, left, sum, ow, false, 0⟩ c = (⟨4, left - 1, sum, ow, decide (left - 1 = 0), 0⟩, [c]) := by unfold dstep; simp
theorem dst1 (left sum : Nat) (ow : List UInt8) (c : UInt8) : dstep ⟨1, left, sum, ow, false, 0⟩ c = (⟨if left - 1 = 0 then 2 else 1, left - 1, sum, ow, false, 0⟩, [c]) := by unfold dstep; simp
theorem strip10 (ow : List UInt8) : stripL (ow ++ [10]) = if ow.getLast? = some 13 then ow.dropLast else ow := by
  unfold stripL
  rw [List.dropLast_concat]
theorem onLine_eq (st left sum : Nat) (ow : List UInt8) (c : UInt8) (f : DS → List UInt8 → DS) : onLine ⟨st, left, sum, ow, false, 0⟩ c f = if 1025 < ow.length + 1 then (⟨st, left, sum, ow ++ [c], false, 3⟩, []) else if c ≠ 10 then (⟨st, left, sum, ow ++ [c], false, 0⟩, []) else (f ⟨st, left, sum, [], false, 0⟩ (if ow.getLast? = some 13 then ow.dropLast else ow), []) := by
  unfold onLine dline
  simp only [List.length_append, List.length_singleton]
  by_cases h1 : 1025 < ow.length + 1
  · rw [if_pos h1, if_pos h1]
  · rw [if_neg h1, if_neg h1]
    by_cases h2 : c = 10
    · subst h2
      simp [strip10]
    · rw [if_pos h2, if_pos h2]
theorem dstL {st : Nat} (h : st = 0 ∨ st = 2 ∨ st = 3) (left sum : Nat) (ow : List UInt8) (c : UInt8) : dstep ⟨st, left, sum, ow, false, 0⟩ c = if 1025 < ow.length + 1 then (⟨st, left, sum, ow ++ [c], false, 3⟩, []) else if c ≠ 10 then (⟨st, left, sum, ow ++ [c], false, 0⟩, []) else (dend ⟨st, left, sum, [], false, 0⟩ (if ow.getLast? = some 13 then ow.dropLast else ow), []) := by
  rcases h with rfl | rfl | rfl
  · rw [step0 c rfl]; exact onLine_eq 0 left sum ow c dsize
  · rw [step2 c rfl]; exact onLine_eq 2 left sum ow c dbehind
  · rw [step3 c rfl]; exact onLine_eq 3 left sum ow c dfields
def RFeedC (d K : Nat) (S : DS) (b : List UInt8) (F : Asr) (w : World) (e : Ending) (w' : World) : Prop :=
  ∃ v, e = .returned (.tuple #[v, .int .i64 (feedL S b).2.2, .bool (feedL S b).1.done, .int .i64 (feedL S b).1.e]) ∧
    Holds w' (rowA 5 1 v (feedL S b).2.1.length (bc (feedL S b).2.1) * (refA d K (feedL S b).1 * F)) ∧ Sm w w'
theorem rf_fin {d K : Nat} {S S' : DS} {O' b : List UInt8} {u' q : Nat} {F : Asr} {w wl : World} {v : Value} (hE : feedL S b = (S', O', u')) (h : Holds wl (rowA 5 1 v O'.length (bc O') * (refA d K S' * F))) (s : Sm w wl) : RFeedC d K S b F w (.returned (.tuple #[v, .int .i64 u', .bool S'.done, .int .i64 S'.e])) (wl.drewN q) := by
  unfold RFeedC
  rw [hE]
  exact ⟨v, rfl, h.drewN q, s.drewN q⟩
set_option maxHeartbeats 16000000 in
theorem rfeed_calls (d K : Nat) (S : DS) (so : Option Addr) (n cap : Nat) (b : List UInt8) (F : Asr) (hb : SrcB F so n b) (hn9 : n ≤ 100000) (hS : OkS S) (w : World) (hw : Holds w (refA d K S * F)) :
    Calls Tryd.prog 9 #[.pointer (some ⟨d, 0, none⟩), .slice so n cap] w (RFeedC d K S b F w) := by
  have HB := Lib.hid hb
  have HSS := Lib.hid hS
  have HLEN := Lib.hid hb.len
  have HW := Lib.hid hw
  clear hb hS hw
  go_enter Tryd.func9, Tryd.ntmps9
  go_wp2_with fail
  go_loopw [8, 9] (fun x8 x9 wl => ∃ (u : Nat) (S1 : DS) (O1 : List UInt8), x9 = .int .i64 u ∧ u ≤ n ∧ Hid (feedL S (b.take u) = (S1, O1, u)) ∧ Hid (OkS S1) ∧ Hid (Holds wl (rowA 5 1 x8 O1.length (bc O1) * (refA d K S1 * F))) ∧ Hid (Sm w wl)) (fun _ x9 _ => n - (intOf x9).toNat)
  case atStart => exact ⟨0, S, [], rfl, Nat.zero_le _, by show _ = _; simp [feedL], HSS.out, rowA_nil HW.out, Sm.refl _⟩
  case round =>
    obtain ⟨u, S1, O1, rfl, hu, HF1, HOK1, HH, HS⟩ := hrel
    have h1 := HH.out.eqv (star_left_comm _ _ _)
    obtain ⟨L, M, p, own, hrk, h2⟩ := ref_open h1
    obtain ⟨k0, k1, k2, k3, k4, k5, k6, kf, kl⟩ := ref_f h2
    by_cases hgo : u < n ∧ stopped S1 = false
    · have hub : u < b.length := by rw [HLEN.out]; exact hgo.1
      obtain ⟨gb, ob, rfl, hcell⟩ := HB.out.cell (by omega)
      have cb := hcell _ wr (HH.out.eqv (by ac_rfl : _ = (rowA 5 1 u8 O1.length (bc O1) * refA d K S1) * F)) u hub
      have hok := HOK1.out.resolve_left (by rw [hgo.2]; simp)
      have HF2 := Lib.hid (feed_take S S1 O1 b u HF1.out hub (by rw [hgo.2]; simp))
      have hO1 : O1.length ≤ 1048576 := by
        have := feed_out (b.take u) S
        rw [HF1.out] at this
        simp only [List.length_take] at this
        have hl := HLEN.out
        omega
      obtain ⟨c, hc⟩ : ∃ c, b[u] = c := ⟨_, rfl⟩
      rw [hc] at cb HF2
      have HOK2 := Lib.hid (step_ok c hok)
      obtain ⟨hnd, hne0⟩ := stop_no (S := S1) (by rw [hgo.2]; simp)
      have hrk2 : (K = 3 ∧ S1.st = 5 ∧ S1.sum = M) ∨ (K = 1 ∧ p = 0 ∧ S1.st = 4 ∧ S1.left = L) ∨ (K = 2 ∧ S1.st = p ∧ S1.st ≤ 3 ∧ S1.sum = M ∧ S1.own = own ∧ (p = 1 → S1.left = L)) := by
        rcases hrk.resolve_left (by rw [hgo.2]; simp) with ⟨h1, h2, h3⟩ | ⟨h1, h2, h3, h4⟩ | ⟨h1, h2, h3, h4, h5, h6⟩
        · exact .inl ⟨h1, h2, h3.symm⟩
        · exact .inr (.inl ⟨h1, h2, h3, h4.symm⟩)
        · exact .inr (.inr ⟨h1, h2.symm, h3, h4.symm, h5.symm, fun h => (h6 h).symm⟩)
      have hlt := hgo.1
      have bleft := hok.left
      have bsum := hok.sum
      have bown := hok.own
      have b1 := hok.d1
      have b4 := hok.d4
      obtain ⟨st, left, sum, ow, done, e⟩ := S1
      simp only at hnd hne0 hrk2 bleft bsum bown b1 b4 k5 k6 h2
      subst hnd hne0
      have HK := Lib.hid h2
      have i0 : (0 : Int) ≤ (u : Int) := by omega
      have i1 : (u : Int) < (n : Int) := by omega
      have t1 : decide ((u : Int) < (n : Int)) = true := decide_eq_true i1
      have a1 : IntKind.i64.wrap ((u : Int) + 1) = (u : Int) + 1 := IntWalk.i64_in _ (by omega)
      have m1 : Hid (O1.length + 1 ≤ maxLen) := by show _ ≤ _; unfold maxLen; omega
      have m2 : Hid ((O1.length + 1) * 1 ≤ 140737488355328) := by show _ ≤ _; omega
      have SN : ∀ (wq : World) (v : Value), Hid (Holds wq (rowA 5 1 v (O1.length + 1) (bc (O1 ++ [c])) * (refA d K S * F)) → True) := fun _ _ _ => trivial
      clear SN h1 h2 hcell hc hgo hub HF1 HOK1 HH hrk hok hu
      rcases hrk2 with ⟨rfl, rfl, rfl⟩ | ⟨rfl, rfl, rfl, rfl⟩ | ⟨rfl, rfl, hst3, rfl, rfl, hL⟩
      · rw [dst5] at HF2 HOK2
        have a2 : IntKind.i64.wrap ((sum : Int) + 1) = (sum : Int) + 1 := IntWalk.i64_in _ (by omega)
        by_cases hsum : sum = 1048576
        · rw [if_pos hsum] at HF2
          have FIN := fun q => rf_fin (q := q) (d := d) (K := 3) (F := F) (feed_end S _ _ b (u + 1) HF2.out (.inl rfl)) (w := w) (wl := (wr.setCell ⟨d, 2, none⟩ (.int .i64 ((sum + 1 : Nat) : Int))).setCell ⟨d, 6, none⟩ (.int .i64 3)) (v := u8) (by
            rw [List.append_nil]
            exact (ref_shut (S := ⟨5, left, sum, ow, false, 3⟩) (M := sum + 1) (.inl rfl) ((HK.out.store 2 (.int .i64 ((sum + 1 : Nat) : Int))).store 6 (.int .i64 3))).eqv (star_left_comm _ _ _)) ((HS.out.setCell _ _).setCell _ _)
          have FIN2 := Lib.hid FIN
          have t2 : decide ((1048576 : Int) < (sum : Int) + 1) = true := decide_eq_true (by omega)
          clear hsum FIN HF2 HOK2 HK HS m1 m2
          go_wp2_with fail
          go_quiet (fail)
          go_wp2_with fail
          refine bodyPost_ret (v := .tuple #[u8, .int .i64 ((u : Int) + 1), .bool false, .int .i64 3]) (by simp [results, Tryd.results9]) rfl ?_
          exact FIN2.out _
        · rw [if_neg hsum] at HF2 HOK2
          have t2 : decide ((1048576 : Int) < (sum : Int) + 1) = false := decide_eq_false (by omega)
          have hs1 := HK.out.store 2 (.int .i64 ((sum : Int) + 1))
          have HA := Lib.hid (((hs1.alloc (.cells #[.int .u8 (c.toNat : Int)] 5)).right).eqv (star_left_comm _ _ _))
          have SA := Lib.hid ((HS.out.setCell ⟨d, 2, none⟩ (.int .i64 ((sum : Int) + 1))).alloc (.cells #[.int .u8 (c.toNat : Int)] 5))
          clear hsum hs1 HK HS
          have NC := cells_new (wr.setCell ⟨d, 2, none⟩ (.int .i64 ((sum : Int) + 1))) #[.int .u8 (c.toNat : Int)] 5 [.int .u8 (c.toNat : Int)] rfl
          rw [show (wr.setCell ⟨d, 2, none⟩ (.int .i64 ((sum : Int) + 1))).heap.size = wr.heap.size by simp [World.setCell]] at NC
          have NC2 := Lib.hid NC
          clear NC
          go_wp2_with (at_builtin; refine wpList_append_sep rfl _ _ 22 rfl 5 (.int .u8 0) 1 1 Tryd.underlying22 infoB rfl rfl HA.out ⟨wr.heap.size, 0, none⟩ 1 1 [.int .u8 (c.toNat : Int)] rfl rfl NC2.out (by simp [Value.oneCell']) m1.out m2.out ?_)
          intro v' w2 h2 s2 hvv
          clear hvv
          rw [bc_snoc] at h2
          have HN : Hid (Holds w2 (rowA 5 1 v' (O1 ++ [c]).length (bc (O1 ++ [c])) * (refA d 3 ⟨5, left, sum + 1, ow, false, 0⟩ * F))) := by
            show Holds _ _
            rw [List.length_append]
            exact (ref_shut (S := ⟨5, left, sum + 1, ow, false, 0⟩) (M := sum + 1) (.inr (.inl ⟨rfl, rfl, rfl⟩)) (h2.eqv (star_left_comm _ _ _))).eqv (star_left_comm _ _ _)
          have SN := Lib.hid (SA.out.trans s2)
          clear h2 s2 HA SA NC2 m1 m2
          go_wp2_with fail
          go_roundw
          case rel => exact ⟨u + 1, _, _, by go_num, by omega, HF2.out, HOK2.out, HN.out, SN.out⟩
          case measure => simp [intOf]; omega
      · rw [dst4] at HF2 HOK2
        have hl := b4 rfl
        obtain ⟨l1, rfl⟩ : ∃ l1, left = l1 + 1 := ⟨left - 1, by omega⟩
        simp only [Nat.add_sub_cancel] at HF2 HOK2
        have a2 : IntKind.i64.wrap ((l1 : Int) + 1 - 1) = (l1 : Int) := by rw [IntWalk.i64_in _ (by omega)]; omega
        have a3 : IntKind.i64.wrap (l1 : Int) = (l1 : Int) := IntWalk.i64_in _ (by omega)
        have HA := Lib.hid (((HK.out.alloc (.cells #[.int .u8 (c.toNat : Int)] 5)).right).eqv (star_left_comm _ _ _))
        have SA := Lib.hid (HS.out.alloc (.cells #[.int .u8 (c.toNat : Int)] 5))
        clear HK HS bleft bsum bown b1 b4 hl
        go_wp2_with (at_builtin; refine wpList_append_sep rfl _ _ 22 rfl 5 (.int .u8 0) 1 1 Tryd.underlying22 infoB rfl rfl HA.out ⟨wr.heap.size, 0, none⟩ 1 1 [.int .u8 (c.toNat : Int)] rfl rfl (cells_new wr _ 5 _ rfl) (by simp [Value.oneCell']) m1.out m2.out ?_)
        intro v' w2 h2 s2 hvv
        clear hvv k0 k1 k2 k3 k4 k5 k6 kf kl
        rw [bc_snoc] at h2
        obtain ⟨k0, k1, k2, k3, k4, k5, k6, kf, kl⟩ := ref_f (h2.eqv (star_left_comm _ _ _))
        have H2 := Lib.hid (h2.eqv (star_left_comm _ _ _))
        have S2 := Lib.hid (SA.out.trans s2)
        clear h2 s2 HA SA m1 m2
        by_cases hz : l1 = 0
        · subst hz
          have HN : Hid (Holds ((w2.setCell ⟨d, 1, none⟩ (.int .i64 0)).setCell ⟨d, 5, none⟩ (.bool true)) (rowA 5 1 v' (O1 ++ [c]).length (bc (O1 ++ [c])) * (refA d 1 ⟨4, 0, sum, ow, true, 0⟩ * F))) := by
            show Holds _ _
            rw [List.length_append]
            exact (ref_shut (S := ⟨4, 0, sum, ow, true, 0⟩) (L := 0) (M := M) (p := 0) (own := own) (.inl rfl) ((H2.out.store 1 (.int .i64 0)).store 5 (.bool true))).eqv (star_left_comm _ _ _)
          have SN : Hid (Sm w ((w2.setCell ⟨d, 1, none⟩ (.int .i64 0)).setCell ⟨d, 5, none⟩ (.bool true))) := (S2.out.setCell _ _).setCell _ _
          clear H2 S2
          go_wp2_with fail
          go_roundw
          case rel => exact ⟨u + 1, _, _, by go_num, by omega, HF2.out, HOK2.out, HN.out, SN.out⟩
          case measure => simp [intOf]; omega
        · have t3 : ((l1 : Int) == 0) = false := beq_eq_false_iff_ne.2 (by omega)
          have t3' : (l1 == 0) = false := beq_eq_false_iff_ne.2 hz
          rw [decide_eq_false hz] at HF2 HOK2
          clear hz
          have HN : Hid (Holds (w2.setCell ⟨d, 1, none⟩ (.int .i64 (l1 : Int))) (rowA 5 1 v' (O1 ++ [c]).length (bc (O1 ++ [c])) * (refA d 1 ⟨4, l1, sum, ow, false, 0⟩ * F))) := by
            show Holds _ _
            rw [List.length_append]
            exact (ref_shut (S := ⟨4, l1, sum, ow, false, 0⟩) (L := l1) (M := M) (p := 0) (own := own) (.inr (.inr (.inl ⟨rfl, rfl, rfl, rfl⟩))) (H2.out.store 1 (.int .i64 (l1 : Int)))).eqv (star_left_comm _ _ _)
          have SN : Hid (Sm w (w2.setCell ⟨d, 1, none⟩ (.int .i64 (l1 : Int)))) := S2.out.setCell _ _
          clear H2 S2
          go_wp2_with fail
          go_roundw
          case rel => exact ⟨u + 1, _, _, by go_num, by omega, HF2.out, HOK2.out, HN.out, SN.out⟩
          case measure => simp [intOf]; omega
      · by_cases hs1 : st = 1
        · subst hs1
          obtain rfl := hL rfl
          rw [dst1] at HF2 HOK2
          have hl := b1 rfl
          obtain ⟨l1, rfl⟩ : ∃ l1, left = l1 + 1 := ⟨left - 1, by omega⟩
          simp only [Nat.add_sub_cancel] at HF2 HOK2
          have a2 : IntKind.i64.wrap ((l1 : Int) + 1 - 1) = (l1 : Int) := by rw [IntWalk.i64_in _ (by omega)]; omega
          have a3 : IntKind.i64.wrap (l1 : Int) = (l1 : Int) := IntWalk.i64_in _ (by omega)
          have HA := Lib.hid (((HK.out.alloc (.cells #[.int .u8 (c.toNat : Int)] 5)).right).eqv (star_left_comm _ _ _))
          have SA := Lib.hid (HS.out.alloc (.cells #[.int .u8 (c.toNat : Int)] 5))
          clear HK HS bleft bsum bown b1 b4 hl
          clear hL hst3
          go_wp2_with (at_builtin; refine wpList_append_sep rfl _ _ 22 rfl 5 (.int .u8 0) 1 1 Tryd.underlying22 infoB rfl rfl HA.out ⟨wr.heap.size, 0, none⟩ 1 1 [.int .u8 (c.toNat : Int)] rfl rfl (cells_new wr _ 5 _ rfl) (by simp [Value.oneCell']) m1.out m2.out ?_)
          intro v' w2 h2 s2 hvv
          clear hvv k0 k1 k2 k3 k4 k5 k6 kf kl
          rw [bc_snoc] at h2
          obtain ⟨k0, k1, k2, k3, k4, k5, k6, kf, kl⟩ := ref_f (h2.eqv (star_left_comm _ _ _))
          have H2 := Lib.hid (h2.eqv (star_left_comm _ _ _))
          have S2 := Lib.hid (SA.out.trans s2)
          clear h2 s2 HA SA m1 m2
          by_cases hz : l1 = 0
          · subst hz
            have HN : Hid (Holds ((w2.setCell ⟨d, 1, none⟩ (.int .i64 0)).setCell ⟨d, 3, none⟩ (.int .i64 2)) (rowA 5 1 v' (O1 ++ [c]).length (bc (O1 ++ [c])) * (refA d 2 ⟨2, 0, sum, ow, false, 0⟩ * F))) := by
              show Holds _ _
              rw [List.length_append]
              exact (ref_shut (S := ⟨2, 0, sum, ow, false, 0⟩) (L := 0) (M := sum) (p := 2) (own := ow) (.inr (.inr (.inr ⟨rfl, rfl, by simp, rfl, rfl, by simp⟩))) ((H2.out.store 1 (.int .i64 0)).store 3 (.int .i64 2))).eqv (star_left_comm _ _ _)
            have SN : Hid (Sm w ((w2.setCell ⟨d, 1, none⟩ (.int .i64 0)).setCell ⟨d, 3, none⟩ (.int .i64 2))) := (S2.out.setCell _ _).setCell _ _
            clear H2 S2
            go_wp2_with fail
            go_roundw
            case rel => exact ⟨u + 1, _, _, by go_num, by omega, HF2.out, HOK2.out, HN.out, SN.out⟩
            case measure => simp [intOf]; omega
          · have t3 : ((l1 : Int) == 0) = false := beq_eq_false_iff_ne.2 (by omega)
            have t3' : (l1 == 0) = false := beq_eq_false_iff_ne.2 hz
            rw [if_neg hz] at HF2 HOK2
            clear hz
            have HN : Hid (Holds (w2.setCell ⟨d, 1, none⟩ (.int .i64 (l1 : Int))) (rowA 5 1 v' (O1 ++ [c]).length (bc (O1 ++ [c])) * (refA d 2 ⟨1, l1, sum, ow, false, 0⟩ * F))) := by
              show Holds _ _
              rw [List.length_append]
              exact (ref_shut (S := ⟨1, l1, sum, ow, false, 0⟩) (L := l1) (M := sum) (p := 1) (own := ow) (.inr (.inr (.inr ⟨rfl, rfl, by simp, rfl, rfl, fun _ => rfl⟩))) (H2.out.store 1 (.int .i64 (l1 : Int)))).eqv (star_left_comm _ _ _)
            have SN : Hid (Sm w (w2.setCell ⟨d, 1, none⟩ (.int .i64 (l1 : Int)))) := S2.out.setCell _ _
            clear H2 S2
            go_wp2_with fail
            go_roundw
            case rel => exact ⟨u + 1, _, _, by go_num, by omega, HF2.out, HOK2.out, HN.out, SN.out⟩
            case measure => simp [intOf]; omega
        · have hst : st = 0 ∨ st = 2 ∨ st = 3 := by omega
          have HST := Lib.hid hst
          rw [dstL hst] at HF2 HOK2
          have t2 : ((st : Int) == 1) = false := beq_eq_false_iff_ne.2 (by omega)
          have t2' : (st == 1) = false := beq_eq_false_iff_ne.2 hs1
          have CT : sb ow ++ sb [c] = sb (ow ++ [c]) := sb_app' _ _
          have CV : (convert 22 9 (.slice (some ⟨wr.heap.size, 0, none⟩) 1 1)).run Tryd.prog (wr.alloc (.cells #[.int .u8 (c.toNat : Int)] 5)).drew = .ok (.string (sb [c])) (wr.alloc (.cells #[.int .u8 (c.toNat : Int)] 5)).drew := one_conv wr.drew c
          have lx : (sb (ow ++ [c])).size = ow.length + 1 := by rw [sb_size]; simp
          have la : (sb ow).size ≤ 1048576 := by rw [sb_size]; omega
          have lb : (sb [c]).size = 1 := rfl
          have hx2 : (sb (ow ++ [c])).extract 0 ow.length = sb ow := by
            rw [ext_take _ _ (by rw [lx]; omega), bl_sb, List.take_left']
            rfl
          obtain ⟨X, hX⟩ : ∃ q, sb (ow ++ [c]) = q := ⟨_, rfl⟩
          have HX := Lib.hid hX
          rw [hX] at CT lx hx2
          obtain ⟨Y, hY⟩ : ∃ q, sb ow = q := ⟨_, rfl⟩
          have HY := Lib.hid hY
          rw [hY] at CT la hx2 k4
          obtain ⟨z1, hz1⟩ : ∃ q, sb [c] = q := ⟨_, rfl⟩
          rw [hz1] at CT lb CV
          obtain ⟨k, hk⟩ : ∃ q, ow.length = q := ⟨_, rfl⟩
          rw [hk] at lx hx2 HF2 HOK2
          have HK8 := Lib.hid hk
          clear hX hY hz1 hk bleft b1 b4 hL hst3 hs1 hst
          go_upto_region 18 with (fail)
          go_region
          have h3 : Holds ((wr.setCell ⟨d, 4, none⟩ (.string X)).alloc (.cells #[.int .u8 (c.toNat : Int)] 5)).drew (pts d (.cells (cR 2 L sum st (ow ++ [c]) false 0) 52 (0, 0)) * (rowA 5 1 u8 O1.length (bc O1) * F)) := by
            rw [← HX.out]
            exact (((HK.out.store 4 (.string (sb (ow ++ [c])))).alloc (.cells #[.int .u8 (c.toNat : Int)] 5)).drew).right
          have S3 : Hid (Sm w ((wr.setCell ⟨d, 4, none⟩ (.string X)).alloc (.cells #[.int .u8 (c.toNat : Int)] 5)).drew) := ((HS.out.setCell _ _).alloc _).drew
          clear HK HS k0 k1 k2 k3 k4 k5 k6 kf kl CV cb CT lb la HSS HLEN HW
          obtain ⟨W3, hW3⟩ : ∃ q, ((wr.setCell ⟨d, 4, none⟩ (.string X)).alloc (.cells #[.int .u8 (c.toNat : Int)] 5)).drew = q := ⟨_, rfl⟩
          rw [hW3] at h3 S3 ⊢
          clear hW3
          obtain ⟨k0, k1, k2, k3, k4, k5, k6, kf, kl⟩ := ref_f h3
          rw [HX.out] at k4
          have H3 := Lib.hid h3
          clear h3
          have ly : Y.size = k := by rw [← HY.out, sb_size, HK8.out]
          by_cases hbig : 1025 < k + 1
          · rw [if_pos hbig] at HF2 HOK2
            have FIN := Lib.hid (fun q => rf_fin (q := q) (d := d) (K := 2) (F := F) (feed_end S _ _ b (u + 1) HF2.out (.inl rfl)) (w := w) (wl := W3.setCell ⟨d, 6, none⟩ (.int .i64 3)) (v := u8) (by
              rw [List.append_nil]
              exact (ref_shut (S := ⟨st, left, sum, ow ++ [c], false, 3⟩) (L := L) (M := sum) (p := st) (own := ow ++ [c]) (.inl rfl) (H3.out.store 6 (.int .i64 3))).eqv (star_left_comm _ _ _)) (S3.out.setCell _ _))
            have t5 : decide ((1025 : Int) < (X.size : Int)) = true := decide_eq_true (by omega)
            have t5' : decide (1025 < X.size) = true := decide_eq_true (by omega)
            clear hbig HF2 HOK2 H3 S3 m1 m2 lx ly hx2 HK8 HX HY HST bsum bown
            go_wp2_with fail
            go_quiet (fail)
            go_wp2_with fail
            refine bodyPost_ret (v := .tuple #[u8, .int .i64 ((u : Int) + 1), .bool false, .int .i64 3]) (by simp [results, Tryd.results9]) rfl ?_
            exact FIN.out _
          · rw [if_neg hbig] at HF2 HOK2
            have t5 : decide ((1025 : Int) < (X.size : Int)) = false := decide_eq_false (by omega)
            have t5' : decide (1025 < X.size) = false := decide_eq_false (by omega)
            by_cases hc : c = 10
            · subst hc
              rw [if_neg (by simp)] at HF2 HOK2
              simp only [List.append_nil] at HF2
              have EC : ∀ (s' : List UInt8) (hs' : s'.length ≤ 1048576) (wq : World) (hq : Holds wq (pts d (.cells (cR 2 L sum st [] false 0) 52 (0, 0)) * (rowA 5 1 u8 O1.length (bc O1) * F))), Calls Tryd.prog 22 #[.pointer (some ⟨d, 0, none⟩), .string (sb s')] wq (RStepC d 2 (dend ⟨st, left, sum, [], false, 0⟩ s') (rowA 5 1 u8 O1.length (bc O1) * F) wq) := fun s' hs' wq hq => ended_calls d L ⟨st, left, sum, [], false, 0⟩ s' hs' HST.out rfl rfl rfl bsum _ wq hq
              have ws : IntKind.i64.wrap ((X.size : Int) - 1) = (k : Int) := by rw [IntWalk.i64_in _ (by omega)]; omega
              have j0 : (0 : Int) ≤ (k : Int) := by omega
              have j1 : (k : Int) ≤ (X.size : Int) := by omega
              have j2 : k ≤ X.size := by omega
              by_cases h13 : ow.getLast? = some 13
              · rw [if_pos h13] at HF2 HOK2
                have hk0 : k ≠ 0 := fun h => by
                  have := List.eq_nil_of_length_eq_zero (HK8.out.trans h)
                  rw [this] at h13; simp at h13
                obtain ⟨m, rfl⟩ : ∃ m, k = m + 1 := ⟨k - 1, by omega⟩
                have IXY : ∀ wq, (Instr.index 9 (.string Y) (.int .i64 (m : Int))).run Tryd.prog wq = .ok (.int .u8 13) wq := fun wq => by
                  have h := idx_s Y m (by omega) wq
                  have e : (bl Y)[m]'(by rw [bl_len]; omega) = 13 := by
                    have e2 : bl Y = ow := by rw [← HY.out, bl_sb]
                    rw [List.getLast?_eq_getElem?, HK8.out] at h13
                    have := (List.getElem?_eq_some_iff.1 h13).2
                    simp only [Nat.add_sub_cancel] at this
                    simp only [e2, this]
                  rw [e] at h
                  exact h
                have hz2 : Y.extract 0 m = sb ow.dropLast := by
                  rw [ext_take _ _ (by omega), ← HY.out, bl_sb, List.dropLast_eq_take, HK8.out, Nat.add_sub_cancel]
                have EC2 := Lib.hid (fun wq hq => EC ow.dropLast (by rw [List.length_dropLast, HK8.out]; omega) wq hq)
                obtain ⟨Z, hZ⟩ : ∃ q, sb ow.dropLast = q := ⟨_, rfl⟩
                rw [hZ] at EC2 hz2
                have wy : IntKind.i64.wrap ((Y.size : Int) - 1) = (m : Int) := by rw [IntWalk.i64_in _ (by omega)]; omega
                have y0 : decide ((0 : Int) < (Y.size : Int)) = true := decide_eq_true (by omega)
                have y0' : decide (0 < Y.size) = true := decide_eq_true (by omega)
                have y1 : (m : Int) < (Y.size : Int) := by omega
                have y2 : (m : Int) ≤ (Y.size : Int) := by omega
                have y3 : (0 : Int) ≤ (m : Int) := by omega
                have y4 : ((m + 1 : Nat) : Int) = (m : Int) + 1 := by omega
                clear EC h13 hk0 hbig hZ bsum bown ly lx
                go_wp2_with fail
                go_quiet (fail)
                go_wp2_with fail
                refine (EC2.out _ ((H3.out.drewN nq).store 4 (.string ⟨#[]⟩))).mono ?_
                rintro e w5 ⟨rfl, h5, s5⟩
                have HN := Lib.hid (h5.eqv (star_left_comm _ _ _))
                have SN := Lib.hid (((S3.out.drewN nq).setCell _ _).trans s5)
                clear h5 s5 EC2 H3 S3
                go_wp2_with fail
                go_roundw
                case rel => exact ⟨u + 1, _, _, by go_num, by omega, HF2.out, HOK2.out, HN.out, SN.out⟩
                case measure => simp [intOf]; omega
              · rw [if_neg h13] at HF2 HOK2
                have EC2 := Lib.hid (fun wq hq => EC ow (by omega) wq hq)
                rw [HY.out] at EC2
                by_cases hk0 : k = 0
                · have y0 : decide ((0 : Int) < (Y.size : Int)) = false := decide_eq_false (by omega)
                  have y0' : decide (0 < Y.size) = false := decide_eq_false (by omega)
                  clear EC h13 hk0 hbig bsum bown ly lx
                  go_wp2_with fail
                  go_quiet (fail)
                  go_wp2_with fail
                  refine (EC2.out _ ((H3.out.drewN nq).store 4 (.string ⟨#[]⟩))).mono ?_
                  rintro e w5 ⟨rfl, h5, s5⟩
                  have HN := Lib.hid (h5.eqv (star_left_comm _ _ _))
                  have SN := Lib.hid (((S3.out.drewN nq).setCell _ _).trans s5)
                  clear h5 s5 EC2 H3 S3
                  go_wp2_with fail
                  go_roundw
                  case rel => exact ⟨u + 1, _, _, by go_num, by omega, HF2.out, HOK2.out, HN.out, SN.out⟩
                  case measure => simp [intOf]; omega
                · obtain ⟨m, rfl⟩ : ∃ m, k = m + 1 := ⟨k - 1, by omega⟩
                  obtain ⟨g, hg, hg13⟩ : ∃ g : Nat, (∀ wq, (Instr.index 9 (.string Y) (.int .i64 (m : Int))).run Tryd.prog wq = .ok (.int .u8 (g : Int)) wq) ∧ g ≠ 13 := by
                    refine ⟨((bl Y)[m]'(by rw [bl_len]; omega)).toNat, fun wq => idx_s Y m (by omega) wq, fun h => h13 ?_⟩
                    have e2 : bl Y = ow := by rw [← HY.out, bl_sb]
                    have e3 : (bl Y)[m]'(by rw [bl_len]; omega) = 13 := UInt8.toNat_inj.1 h
                    rw [List.getLast?_eq_getElem?, HK8.out, Nat.add_sub_cancel, List.getElem?_eq_getElem (by rw [HK8.out]; omega)]
                    simp only [e2] at e3
                    rw [e3]
                  have wy : IntKind.i64.wrap ((Y.size : Int) - 1) = (m : Int) := by rw [IntWalk.i64_in _ (by omega)]; omega
                  have y0 : decide ((0 : Int) < (Y.size : Int)) = true := decide_eq_true (by omega)
                  have y0' : decide (0 < Y.size) = true := decide_eq_true (by omega)
                  have y1 : (m : Int) < (Y.size : Int) := by omega
                  have y3 : (0 : Int) ≤ (m : Int) := by omega
                  have y4 : ((m + 1 : Nat) : Int) = (m : Int) + 1 := by omega
                  have g1 : ((g : Int) == 13) = false := beq_eq_false_iff_ne.2 (by omega)
                  have g1' : (g == 13) = false := beq_eq_false_iff_ne.2 hg13
                  clear EC h13 hk0 hbig hg13 bsum bown ly lx
                  go_wp2_with fail
                  go_quiet (fail)
                  go_wp2_with fail
                  refine (EC2.out _ ((H3.out.drewN nq).store 4 (.string ⟨#[]⟩))).mono ?_
                  rintro e w5 ⟨rfl, h5, s5⟩
                  have HN := Lib.hid (h5.eqv (star_left_comm _ _ _))
                  have SN := Lib.hid (((S3.out.drewN nq).setCell _ _).trans s5)
                  clear h5 s5 EC2 H3 S3
                  go_wp2_with fail
                  go_roundw
                  case rel => exact ⟨u + 1, _, _, by go_num, by omega, HF2.out, HOK2.out, HN.out, SN.out⟩
                  case measure => simp [intOf]; omega
            · rw [if_pos hc] at HF2 HOK2
              simp only [List.append_nil] at HF2
              have hcn : c.toNat ≠ 10 := fun h => hc (UInt8.toNat_inj.1 h)
              have c1 : ((c.toNat : Int) == 10) = false := beq_eq_false_iff_ne.2 (by omega)
              have c1' : (c.toNat == 10) = false := beq_eq_false_iff_ne.2 hcn
              have HN : Hid (Holds W3 (rowA 5 1 u8 O1.length (bc O1) * (refA d 2 ⟨st, left, sum, ow ++ [c], false, 0⟩ * F))) := (ref_shut (S := ⟨st, left, sum, ow ++ [c], false, 0⟩) (L := L) (M := sum) (p := st) (own := ow ++ [c]) (.inr (.inr (.inr ⟨rfl, rfl, by have := HST.out; simp only; omega, rfl, rfl, fun h => by have := HST.out; omega⟩))) H3.out).eqv (star_left_comm _ _ _)
              clear hc hcn hbig H3 bsum bown ly lx
              go_wp2_with fail
              go_roundw
              case rel => exact ⟨u + 1, _, _, by go_num, by omega, HF2.out, HOK2.out, HN.out, S3.out⟩
              case measure => simp [intOf]; omega
    · have hx : stopped S1 = true ∨ u = b.length := by
        rw [HLEN.out]
        cases h : stopped S1
        · right
          have : ¬ u < n := fun h2 => hgo ⟨h2, h⟩
          omega
        · exact .inl rfl
      have FIN := Lib.hid (fun q => rf_fin (q := q) (d := d) (K := K) (F := F) (feed_end S S1 O1 b u HF1.out hx) (w := w) (wl := wr) (v := u8) HH.out HS.out)
      have hcond : (u < n ∧ (S1.e = 0 ∧ S1.done = true ∨ S1.e ≠ 0)) ∨ u = n := by
        rw [HLEN.out] at hx
        rcases hx with h | h
        · by_cases h2 : u < n
          · exact .inl ⟨h2, stop_yes h⟩
          · exact .inr (by omega)
        · exact .inr h
      clear HF1 HOK1 HH HS hx hgo h1 h2 hrk HSS HLEN HW k0 k1 k2 k3 k4
      rcases hcond with ⟨hun, ⟨he, hd⟩ | he⟩ | rfl
      · have t1 : decide ((u : Int) < (n : Int)) = true := decide_eq_true (by omega)
        have t1' : decide (u < n) = true := decide_eq_true hun
        rw [he, hd] at FIN
        rw [hd] at k5
        rw [he] at k6
        clear he hd
        go_wp2_with fail
        go_quiet (fail)
        go_wp2_with fail
        refine bodyPost_ret (v := .tuple #[u8, .int .i64 (u : Int), .bool true, .int .i64 0]) (by simp [results, Tryd.results9]) rfl ?_
        exact FIN.out _
      · have t1 : decide ((u : Int) < (n : Int)) = true := decide_eq_true (by omega)
        have t1' : decide (u < n) = true := decide_eq_true hun
        have t3 : ((S1.e : Int) == 0) = false := beq_eq_false_iff_ne.2 (by omega)
        have t3' : (S1.e == 0) = false := beq_eq_false_iff_ne.2 he
        obtain ⟨dn, hdn⟩ : ∃ q, S1.done = q := ⟨_, rfl⟩
        rw [hdn] at FIN k5
        clear he hdn
        cases dn with
        | true =>
          go_wp2_with fail
          go_quiet (fail)
          go_wp2_with fail
          refine bodyPost_ret (v := .tuple #[u8, .int .i64 (u : Int), .bool true, .int .i64 S1.e]) (by simp [results, Tryd.results9]) rfl ?_
          exact FIN.out _
        | false =>
          go_wp2_with fail
          go_quiet (fail)
          go_wp2_with fail
          refine bodyPost_ret (v := .tuple #[u8, .int .i64 (u : Int), .bool false, .int .i64 S1.e]) (by simp [results, Tryd.results9]) rfl ?_
          exact FIN.out _
      · have t1 : decide ((u : Int) < (u : Int)) = false := decide_eq_false (by omega)
        have t1' : decide (u < u) = false := decide_eq_false (by omega)
        go_wp2_with fail
        go_quiet (fail)
        go_wp2_with fail
        refine bodyPost_ret (v := .tuple #[u8, .int .i64 (u : Int), .bool S1.done, .int .i64 S1.e]) (by simp [results, Tryd.results9]) rfl ?_
        exact FIN.out _
#print axioms rfeed_calls
end Go.Proofs.YtibhnkkfaochhaaDoor.Dec
