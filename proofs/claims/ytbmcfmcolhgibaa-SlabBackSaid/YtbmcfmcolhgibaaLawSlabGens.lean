/-
  SlabGens, the walk.
-/
import Derived.Test.YtbmcfmcolhgibaaSlabApi
import Derived.OwnWalk
namespace Go.Proofs.Ytbmcfmcolhgibaa.Slab
open Go.RowKit Go.Sep
set_option maxRecDepth 100000
set_option linter.unusedVariables false
set_option linter.unusedSimpArgs false

def hEnc (h : Int × Int × Int) : List Value := [.int .i64 h.1, .int .i64 h.2.1, .int .i64 h.2.2]
theorem hEnc_len (h : Int × Int × Int) : (hEnc h).length = 3 := rfl

/-- one block a class, none in use; of class c: of generation k -/
structure GInv (m : List Cls) (c k : Nat) : Prop where
  len : m.length = 4
  one : ∀ j (h : j < m.length), ∃ b, m[j].l = [b] ∧ b.held = 0 ∧ (b.made = true → 0 < b.bytes.length) ∧ (j = c → b.gen = k)
theorem GInv.fit {m : List Cls} {c k : Nat} (h : GInv m c k) : Fit m := by
  refine ⟨h.len, fun x hx => ?_⟩
  obtain ⟨j, hj, rfl⟩ := List.getElem_of_mem hx
  obtain ⟨b, hb, _⟩ := h.one j hj
  simp [hb]
theorem GInv.set {m : List Cls} {c k : Nat} (h : GInv m c k) (b : Blk) (k' : Nat) (h1 : b.held = 0) (h2 : b.made = true → 0 < b.bytes.length) (h3 : b.gen = k') : GInv (setBlk m c (0 : Nat) b) c k' := by
  refine ⟨by simp [Slab.setBlk, h.len], fun j hj => ?_⟩
  have hj' : j < m.length := by simpa [Slab.setBlk] using hj
  obtain ⟨b0, q1, q2, q3, q4⟩ := h.one j hj'
  simp only [Slab.setBlk, List.getElem_modify]
  by_cases e : (c : Int).toNat = j
  · rw [if_pos e]; exact ⟨b, by simp [q1], h1, h2, fun _ => h3⟩
  · rw [if_neg e]; exact ⟨b0, q1, q2, q3, fun e' => absurd e'.symm (by simpa using e)⟩
theorem GInv.start {X : Nat → Int} {m : List Cls} (h : m.length = 4) (hf : Fresh X m) (hX : ∀ j, j < 4 → X j = 1) (c : Nat) : GInv m c 0 := by
  refine ⟨h, fun j hj => ⟨blk0, ?_, rfl, by simp [blk0], fun _ => rfl⟩⟩
  rw [hf j hj, hX j (by omega)]; rfl
theorem GInv.live {m : List Cls} {c k : Nat} (h : GInv m c k) (j : Int) : liveOf m j = 0 := by
  unfold liveOf
  split
  · split
    · rename_i k' hk
      obtain ⟨hj, rfl⟩ := List.getElem?_eq_some_iff.1 hk
      obtain ⟨b, q1, q2, _⟩ := h.one _ hj
      simp [liveIn, q1, q2]
    · rfl
  · rfl
theorem right_one {m : List Cls} {c : Nat} {b : Blk} (hc : c < m.length) (hl : m[c].l = [b]) (g : Int) : right m c (0 : Nat) g = (b.held != 0 && b.gen == g) := by
  simp [right, blkAt, hc, hl]

def hs (c k : Nat) : List (Int × Int × Int) := (List.range k).map fun (j : Nat) => ((c : Int), (0 : Int), ((j : Int) + 1))
theorem hs_succ (c k : Nat) : hs c (k + 1) = hs c k ++ [((c : Int), (0 : Int), ((k : Int) + 1))] := by simp [hs, List.range_succ]
theorem hs_len (c k : Nat) : (hs c k).length = k := by simp [hs]
theorem hs_get (c k j : Nat) (h : j < (hs c k).length) : (hs c k)[j] = ((c : Int), (0 : Int), ((j : Int) + 1)) := by simp [hs]

theorem clsFor_nat (n : Nat) (hn : n ≤ 4096) : ∃ c : Nat, clsFor n = c ∧ c < 4 := by
  unfold clsFor
  split
  · exact ⟨0, rfl, by omega⟩
  · split
    · exact ⟨1, rfl, by omega⟩
    · split
      · exact ⟨2, rfl, by omega⟩
      · rw [if_pos (by omega)]; exact ⟨3, rfl, by omega⟩
theorem szOf_pos (c : Nat) (hc : c < 4) : 0 < (szOf c).toNat := by
  have : c = 0 ∨ c = 1 ∨ c = 2 ∨ c = 3 := by omega
  rcases this with rfl | rfl | rfl | rfl <;> simp [szOf]


structure GB (m m1 : List Cls) (c k : Nat) (b : Blk) : Prop where
  eq : m1 = setBlk m c (0 : Nat) b
  fit : Fit m1
  hc : c < m1.length
  l : m1[c].l = [b]
  held : b.held = 1
  gen : b.gen = ((k : Int) + 1)
  made : b.made = true
  pos : 0 < b.bytes.length

def GAl (a : Nat) (m : List Cls) (c k : Nat) (F : Asr) (w : World) (e : Ending) (w' : World) : Prop :=
  ∃ m1 b, e = .returned (.tuple #[.agg #[.int .i64 c, .int .i64 0, .int .i64 ((k : Int) + 1)], .int .i64 0]) ∧ Holds w' (arenaA a m1 * F) ∧ Sm w w' ∧ GB m m1 c k b

theorem gens_alloc {a : Nat} {m : List Cls} {c k B : Nat} {F : Asr} {w : World} (h : GInv m c k) (hk : k ≤ 100) (hB : B ≤ 4096) (hc : clsFor B = c) (hc4 : c < 4) (hw : Holds w (arenaA a m * F)) :
    Calls Try.prog 17 #[.pointer (some ⟨a, 0, none⟩), .int .i64 B] w (GAl a m c k F w) := by
  have hcm : c < m.length := by have := h.len; omega
  obtain ⟨b, q1, q2, q3, q4⟩ := h.one c hcm
  have hi : 0 < m[c].l.length := by simp [q1]
  have hb : m[c].l[0] = b := by simp [q1]
  have hfree : freeAt m[c].l = 0 := by simp [freeAt, q1, q2]
  refine (alloc_ok a m F B w h.fit hw (by omega) (by omega) c 0 hcm hc hi hfree).mono ?_
  rintro e w' ⟨loc, rfl, h1, h2⟩
  rw [hb] at h1 ⊢
  have e1 : wrap64 (b.gen + 1) = ((k : Int) + 1) := by rw [q4 rfl]; unfold wrap64; omega
  rw [e1]
  obtain ⟨g1, g2, g3, g4⟩ := setBlk_get (b := alloced loc (szOf c).toNat b) hcm hi
  refine ⟨_, alloced loc (szOf c).toNat b, rfl, h1, h2, ⟨rfl, h.fit.setBlk _ _ _, g1, ?_, ?_, ?_, ?_, ?_⟩⟩
  · simp only [setBlk_eq hcm]; simp [q1]
  · unfold alloced taken; split <;> rfl
  · show (taken _).gen = _
    unfold taken; split <;> exact e1
  · unfold alloced taken; split
    · assumption
    · rfl
  · unfold alloced taken; split
    · exact q3 ‹_›
    · simp [made, zeros]; exact (by have := szOf_pos c hc4; omega)

theorem GB.inv {m m1 : List Cls} {c k : Nat} {b : Blk} (g : GB m m1 c k b) (h : GInv m c k) : GInv (setBlk m1 c (0 : Nat) (dropped b)) c (k + 1) := by
  rw [g.eq, setBlk_setBlk]
  refine h.set _ _ (by simp [dropped, g.held]) (fun _ => ?_) g.gen
  have := g.pos
  unfold dropped; simp only; split
  · simpa [zeros] using this
  · exact this
theorem GB.yes {m m1 : List Cls} {c k a : Nat} {b : Blk} (g : GB m m1 c k b) (F : Asr) (w : World) (hw : Holds w (arenaA a m1 * F)) :
    Calls Try.prog 21 #[.pointer (some ⟨a, 0, none⟩), .agg #[.int .i64 c, .int .i64 0, .int .i64 ((k : Int) + 1)]] w fun e w' => e = .returned (.int .i64 1) ∧ Below w.heap.size w w' := by
  have hc := g.hc
  have hl := g.l
  have hi : 0 < m1[c].l.length := by simp [hl]
  have hb : m1[c].l[0] = b := by simp [hl]
  have := held_yes a m1 F w c 0 g.fit hc hi ((k : Int) + 1) (by rw [hb, g.gen]) hw (by rw [hb, g.held]; rfl)
  rw [hb, g.held] at this
  exact this
theorem GB.no {m m1 : List Cls} {c k : Nat} {b : Blk} (g : GB m m1 c k b) (j : Nat) (hj : j < k) : right m1 c 0 ((j : Int) + 1) = false := by
  have := right_one g.hc g.l ((j : Int) + 1)
  have e : ((0 : Nat) : Int) = 0 := rfl
  rw [e] at this
  rw [this, g.gen]
  simp; intro _; omega
theorem GB.drop {m m1 : List Cls} {c k a : Nat} {b : Blk} (g : GB m m1 c k b) (F : Asr) (w : World) (hw : Holds w (arenaA a m1 * F)) :
    Calls Try.prog 20 #[.pointer (some ⟨a, 0, none⟩), .agg #[.int .i64 c, .int .i64 0, .int .i64 ((k : Int) + 1)]] w fun e w' => e = .returned (.int .i64 0) ∧ Holds w' (arenaA a (setBlk m1 c (0 : Nat) (dropped b)) * F) ∧ Sm w w' := by
  have hc := g.hc
  have hl := g.l
  have hi : 0 < m1[c].l.length := by simp [hl]
  have hb : m1[c].l[0] = b := by simp [hl]
  have := drop_yes a m1 F w c 0 g.fit hc hi ((k : Int) + 1) (by rw [hb, g.gen]) hw (by rw [hb, g.held]; decide) (by rw [hb, g.held]; decide) (by rw [hb]; exact g.made) (by rw [hb]; exact g.pos)
  rw [hb] at this
  exact this

theorem infoH : (Try.prog.info? 36).map (fun i => (i.zero, i.size, i.bytes)) = some (some (.agg #[.int .i64 0, .int .i64 0, .int .i64 0]), 3, 24) := by kernel_rfl

set_option maxHeartbeats 4000000 in
theorem gens_walk (n bytes : Int) (w : World) :
    Calls Try.prog 5 #[.int .i64 n, .int .i64 bytes] w fun e w' => e = .returned (.bool true) ∧ Below w.heap.size w w' := by
  obtain ⟨N, hN, hN2, -⟩ := and31 n
  obtain ⟨B, hB, hB2, -⟩ := and4095 bytes
  obtain ⟨c, hc, hc4⟩ := clsFor_nat B (by omega)
  have NW := Lib.hid (new_ok 1 1 1 1 (all w) w (holds_all w) (by unfold newBad; rw [if_neg, if_neg] <;> (rintro ⟨j, h1, h2⟩; unfold X4 at h2; split at h2 <;> (try split at h2) <;> (try split at h2) <;> omega)))
  have HC := Lib.hid hc
  clear hc
  go_enter Try.func5, Try.ntmps5
  go_wp2_with fail
  refine (NW.out).mono ?_
  rintro e w1 ⟨a, m, rfl, hm4, hfr, hH, hS⟩
  have hG : Hid (GInv m c 0) := GInv.start hm4 hfr (fun j hj => by unfold X4; split <;> (try split) <;> (try split) <;> rfl) c
  have HH := Lib.hid hH
  have HS := Lib.hid hS
  clear hm4 hfr hH hS
  go_wp2_with fail
  go_loopw [7, 8] (fun v i wr => ∃ (k : Nat) (m : List Cls), k ≤ N + 1 ∧ i = .int .i64 k ∧ Hid (GInv m c k) ∧ Hid (Holds wr (arenaA a m * (rowL 36 3 hEnc v (hs c k) * all w))) ∧ Hid (Sm w wr)) (fun _ i _ => N + 1 - (intOf i).toNat)
  case atStart => exact ⟨0, m, Nat.zero_le _, rfl, hG, (rowL_nil (HH.out.eqv (star_comm _ _))).eqv (by ac_rfl), HS.out⟩
  case round =>
    clear HH HS hG
    obtain ⟨k, m, hk, rfl, hG, HH, HS⟩ := hrel
    by_cases hlt : k < N + 1
    · have AL := Lib.hid (gens_alloc hG.out (by omega) (by omega) HC.out hc4 HH.out)
      obtain ⟨ao, cap, hv, hcap⟩ := rowA_slice (HH.out.eqv (star_left_comm _ _ _))
      rw [hs_len] at hv hcap
      subst hv
      go_wp2_with fail
      refine (AL.out).mono ?_
      rintro e w2 ⟨m1, b, rfl, h1, h2, g⟩
      have H1 := Lib.hid h1
      have S1 := Lib.hid (HS.out.trans h2)
      have G := Lib.hid g
      clear h1 h2 g
      have HW := Lib.hid ((H1.out.alloc (.cells #[.int .i64 c, .int .i64 0, .int .i64 ((k : Int) + 1)] 36)).eqv (star_left_comm _ _ _))
      go_wp2_with fail
      refine (G.out.yes _ _ HW.out).mono ?_
      rintro e w3 ⟨rfl, hb3⟩
      have H3 : Hid (Holds w3 (arenaA a m1 * (rowL 36 3 hEnc (.slice ao k cap) (hs c k) * (pts w2.heap.size (.cells #[.int .i64 c, .int .i64 0, .int .i64 ((k : Int) + 1)] 36 (0, 0)) * all w)))) := (HW.out.grow hb3).eqv (by ac_rfl)
      have S3 : Hid (Sm w w3) := (S1.out.alloc _).grow hb3
      clear HW H1 S1 hb3
      go_wp2_with fail
      go_loopw [11] (fun i wr => ∃ j : Nat, j ≤ k ∧ i = .int .i64 j ∧ Hid (Holds wr (arenaA a m1 * (rowL 36 3 hEnc (.slice ao k cap) (hs c k) * (pts w2.heap.size (.cells #[.int .i64 c, .int .i64 0, .int .i64 ((k : Int) + 1)] 36 (0, 0)) * all w)))) ∧ Hid (Sm w wr)) (fun i _ => k - (intOf i).toNat)
      case atStart => exact ⟨0, Nat.zero_le _, rfl, H3.out, S3.out⟩
      case round =>
        clear H3 S3
        rename_i wq
        obtain ⟨j, hj, rfl, H3, S3⟩ := hrel
        by_cases hjl : j < k
        · obtain ⟨g, cap', e1, -, hg, hcell, -⟩ := rowL_cell (H3.out.eqv (star_left_comm _ _ _)) hEnc_len j (by rw [hs_len]; exact hjl)
          rw [hs_get, hs_len] at *
          obtain ⟨rfl, -, -⟩ : ao = some ⟨g, 0, none⟩ ∧ True ∧ True := by simp at e1; exact ⟨e1.1, trivial, trivial⟩
          clear e1
          have k0 := hcell 0 (by omega)
          have k1 := hcell 1 (by omega)
          have k2 := hcell 2 (by omega)
          simp only [hEnc, Nat.add_zero, List.getElem?_cons_zero, List.getElem?_cons_succ] at k0 k1 k2
          clear hcell
          have HN := Lib.hid (held_no a m1 _ _ c 0 _ G.out.fit H3.out (G.out.no j hjl))
          have g0 : (0 : Int) ≤ (j : Int) := by omega
          have g1 : (j : Int) < (k : Int) := by omega
          go_wp2_with fail
          refine (HN.out).mono ?_
          rintro e w5 ⟨rfl, hb5⟩
          have H5 := Lib.hid (H3.out.grow hb5)
          have S5 := Lib.hid (S3.out.grow hb5)
          have k0' := (hb5.cell (p := ⟨g, j * 3, none⟩) hg).trans k0
          have k1' := (hb5.cell (p := ⟨g, j * 3 + 1, none⟩) hg).trans k1
          have k2' := (hb5.cell (p := ⟨g, j * 3 + 2, none⟩) hg).trans k2
          have HO := Lib.hid (hold_no a m1 _ _ c 0 _ G.out.fit H5.out (G.out.no j hjl))
          clear hb5 k0 k1 k2 HN H3 S3
          go_wp2_with fail
          refine (HO.out).mono ?_
          rintro e w6 ⟨rfl, hb6⟩
          have H6 := Lib.hid (H5.out.grow hb6)
          have S6 := Lib.hid (S5.out.grow hb6)
          clear hb6 k0' k1' k2' H5 S5 HO
          go_wp2_with fail
          go_roundw
          case rel => exact ⟨j + 1, by omega, by go_num, H6.out, S6.out⟩
          case measure => simp [intOf]; omega
        · obtain rfl : j = k := by omega
          have hp : Holds wr (pts w2.heap.size (.cells #[.int .i64 c, .int .i64 0, .int .i64 ((j : Int) + 1)] 36 (0, 0)) * (arenaA a m1 * (rowL 36 3 hEnc (.slice ao j cap) (hs c j) * all w))) := H3.out.eqv (by ac_rfl)
          have q0 := hp.cell 0
          have q1 := hp.cell 1
          have q2 := hp.cell 2
          simp only [List.getElem?_toArray, List.getElem?_cons_zero, List.getElem?_cons_succ] at q0 q1 q2
          have HP := Lib.hid hp
          have ha : Holds (wr.alloc (.cells #[.int .i64 c, .int .i64 0, .int .i64 ((j : Int) + 1)] 36)) (rowA 36 3 (.slice ao j cap) (hs c j).length ((hs c j).flatMap hEnc) * (pts w2.heap.size (.cells #[.int .i64 c, .int .i64 0, .int .i64 ((j : Int) + 1)] 36 (0, 0)) * (arenaA a m1 * all w))) :=
            (hp.alloc _).right.eqv (by unfold rowL; ac_rfl)
          have HA := Lib.hid ha
          have hl1 : (hs c j).length + 1 ≤ maxLen := by rw [hs_len]; unfold maxLen; omega
          have hl2 : ((hs c j).length + 1) * 24 ≤ 140737488355328 := by rw [hs_len]; omega
          have HL1 := Lib.hid hl1
          have HL2 := Lib.hid hl2
          clear hp ha H3 hl1 hl2
          go_wp2_with (at_builtin; refine wpList_append_sep rfl _ _ 34 rfl 36 (.agg #[.int .i64 0, .int .i64 0, .int .i64 0]) 3 24 Try.underlying34 infoH rfl rfl HA.out ⟨wr.heap.size, 0, none⟩ 1 1 [.int .i64 c, .int .i64 0, .int .i64 ((j : Int) + 1)] rfl rfl (cells_new wr _ _ _ rfl) (by simp [Value.oneCell']) HL1.out HL2.out ?_)
          intro v' w7 h7 s7 _
          have H7 : Hid (Holds w7 (rowL 36 3 hEnc v' (hs c (j + 1)) * (pts w2.heap.size (.cells #[.int .i64 c, .int .i64 0, .int .i64 ((j : Int) + 1)] 36 (0, 0)) * (arenaA a m1 * all w)))) := by
            show Holds _ _; rw [hs_succ]; exact rowL_snoc h7 rfl
          have S7 : Hid (Sm w w7) := (S3.out.alloc _).trans s7
          have hp : Holds w7 (pts w2.heap.size (.cells #[.int .i64 c, .int .i64 0, .int .i64 ((j : Int) + 1)] 36 (0, 0)) * (arenaA a m1 * (rowL 36 3 hEnc v' (hs c (j + 1)) * all w))) := H7.out.eqv (by ac_rfl)
          have q0 := hp.cell 0
          have q1 := hp.cell 1
          have q2 := hp.cell 2
          simp only [List.getElem?_toArray, List.getElem?_cons_zero, List.getElem?_cons_succ] at q0 q1 q2
          have DR := Lib.hid (G.out.drop _ _ hp.right)
          have GI := Lib.hid (G.out.inv hG.out)
          clear hp h7 s7 H7 HA HP S3 HL1 HL2
          go_wp2_with fail
          refine (DR.out).mono ?_
          rintro e w8 ⟨rfl, h8, s8⟩
          have H8 := Lib.hid h8
          have S8 := Lib.hid (S7.out.trans s8)
          clear h8 s8
          go_wp2_with fail
          go_roundw
          case rel => exact ⟨j + 1, _, by omega, by go_num, GI.out, H8.out, S8.out⟩
          case measure => simp [intOf]; omega
    · have LV := Lib.hid (fun (c : Int) (F : Asr) (w : World) (h : Holds w (arenaA a m * F)) => live_calls a m F w c hG.out.fit h)
      have hl := hG.out.live
      have hl0 : Hid (liveOf m 0 = 0) := hl 0
      have hl1 : Hid (liveOf m 1 = 0) := hl 1
      have hl2 : Hid (liveOf m 2 = 0) := hl 2
      have hl3 : Hid (liveOf m 3 = 0) := hl 3
      clear hl
      go_wp2_with fail
      refine (LV.out 0 _ _ HH.out).mono ?_
      rintro e w3 ⟨rfl, hb⟩
      rw [hl0.out]
      have H3 := Lib.hid (HH.out.grow hb)
      have S3 := Lib.hid (HS.out.grow hb)
      clear hb
      go_wp2_with fail
      refine (LV.out 1 _ _ H3.out).mono ?_
      rintro e w4 ⟨rfl, hb⟩
      rw [hl1.out]
      have H4 := Lib.hid (H3.out.grow hb)
      have S4 := Lib.hid (S3.out.grow hb)
      clear hb H3 S3
      go_wp2_with fail
      refine (LV.out 2 _ _ H4.out).mono ?_
      rintro e w5 ⟨rfl, hb⟩
      rw [hl2.out]
      have H5 := Lib.hid (H4.out.grow hb)
      have S5 := Lib.hid (S4.out.grow hb)
      clear hb H4 S4
      go_wp2_with fail
      refine (LV.out 3 _ _ H5.out).mono ?_
      rintro e w6 ⟨rfl, hb⟩
      rw [hl3.out]
      have H6 := Lib.hid (H5.out.grow hb)
      have S6 := Lib.hid (S5.out.grow hb)
      clear hb H5 S5
      go_wp2_with fail
      go_ret
      exact ⟨rfl, Holds.below (A := arenaA a m * rowL 36 3 hEnc _ (hs c k)) (H6.out.eqv (by ac_rfl)) S6.out⟩
#print axioms gens_walk
end Go.Proofs.Ytbmcfmcolhgibaa.Slab
