/-
  Layer 16: room.
-/
import Derived.Test.YtefcinifaaablaaChain
import Derived.Deep.Cut
namespace Go.Proofs.Ytefcinifaaablaa.Chain
open Go.RowKit Go.Sep
open Go.Proofs.Ytefcinifaaablaa.Slab (szOf szN szN_val clsFor Ar hdl hdlV ABlk allocA dropA Took)
set_option maxRecDepth 100000
set_option linter.unusedVariables false
set_option linter.unusedSimpArgs false

def dropH (A : List (List ABlk)) (h : Hd) : List (List ABlk) := (dropA A h.1 h.2.1 h.2.2).A
def dropsA (A : List (List ABlk)) (l : List Hd) : List (List ABlk) := l.foldl dropH A
structure Room where
  A : List (List ABlk)
  l : List Hd
  e : Int
def roomF : Nat → List (List ABlk) → Int → List Hd → Room
  | 0, A, _, l => ⟨A, l, 0⟩
  | f + 1, A, n, l => if 0 < n then (if (takeA A n).e = 0 then roomF f (takeA A n).A (n - szOf (takeA A n).h.1) (l ++ [(takeA A n).h]) else ⟨dropsA (takeA A n).A l, [], (takeA A n).e⟩) else ⟨A, l, 0⟩
def roomA (A : List (List ABlk)) (n : Int) : Room := roomF n.toNat A n []

theorem szOf_64 (j : Nat) (h : j < 4) : 64 ≤ szOf j ∧ szOf j ≤ 4096 := by
  have : j = 0 ∨ j = 1 ∨ j = 2 ∨ j = 3 := by omega
  rcases this with rfl | rfl | rfl | rfl <;> simp [szOf]
theorem clsFor_sz (j : Nat) (h : j < 4) : clsFor (szOf j) = j := by
  have : j = 0 ∨ j = 1 ∨ j = 2 ∨ j = 3 := by omega
  rcases this with rfl | rfl | rfl | rfl <;> simp [szOf, clsFor]
theorem alloc_cls (A : List (List ABlk)) (j : Nat) (h : j < 4) (he : (allocA A (szOf j)).e = 0) : (allocA A (szOf j)).h.1 = j := by
  have hs := szOf_64 j h
  unfold allocA at he ⊢
  rw [if_neg (by omega)] at he ⊢
  simp only [clsFor_sz j h, Int.toNat_natCast] at he ⊢
  split
  · rename_i hf; rw [if_pos hf] at he; simp at he
  · rfl
theorem takeN_cls : ∀ (j : Nat) (A : List (List ABlk)), j ≤ 4 → (takeN j A).e = 0 → ∃ c : Nat, c < 4 ∧ (takeN j A).h.1 = c
  | 0, A, _, h => by simp [takeN] at h
  | j + 1, A, hj, h => by
    unfold takeN at h ⊢
    by_cases he : (allocA A (szOf j)).e = 0
    · rw [if_pos he] at h ⊢; exact ⟨j, by omega, alloc_cls A j (by omega) he⟩
    · rw [if_neg he] at h ⊢; exact takeN_cls j _ (by omega) h
theorem takeA_cls (A : List (List ABlk)) (n : Int) (h : (takeA A n).e = 0) : ∃ c : Nat, c < 4 ∧ (takeA A n).h.1 = c := takeN_cls _ A (by have := topC_le n; omega) h
theorem takeN_err : ∀ (j : Nat) (A : List (List ABlk)), (takeN j A).e = 0 ∨ (takeN j A).e = 14
  | 0, A => .inr rfl
  | j + 1, A => by
    unfold takeN
    by_cases he : (allocA A (szOf j)).e = 0
    · rw [if_pos he]; exact .inl he
    · rw [if_neg he]; exact takeN_err j _

def RoomC (r : Room) (c a : Nat) (K : Ch) (F : Asr) (w : World) (e : Ending) (w' : World) : Prop :=
  ∃ v, e = .returned (.tuple #[v, .int .i64 r.e]) ∧ Holds w' (hls v r.l * (chA c a K * (Ar a r.A * F))) ∧ Sm w w'
set_option maxHeartbeats 4000000 in
theorem room_calls (c a : Nat) (K : Ch) (A : List (List ABlk)) (F : Asr) (n : Int) (w : World) (hn9 : n ≤ 1100000) (hn0 : -10000 ≤ n) (hw : Holds w (chA c a K * (Ar a A * F))) :
    Calls Try.prog 47 #[.pointer (some ⟨c, 0, none⟩), .int .i64 n] w (RoomC (roomA A n) c a K F w) := by
  have H0 := Lib.hid hw
  clear hw
  go_enter Try.func47, Try.ntmps47
  go_wp2_with fail
  go_loopw [1, 6] (fun x v wr => ∃ (f : Nat) (A' : List (List ABlk)) (n' : Int) (l : List Hd), x = .int .i64 n' ∧ n' ≤ 1100000 ∧ -10000 ≤ n' ∧ n' ≤ f ∧ Hid (l.length * 64 + n' ≤ 1100000 ∧ l.length ≤ 20000) ∧ Hid (roomF f A' n' l = roomA A n) ∧ Hid (Holds wr (hls v l * (chA c a K * (Ar a A' * F)))) ∧ Hid (Sm w wr)) (fun x _ _ => (intOf x).toNat)
  case atStart => exact ⟨n.toNat, A, n, [], rfl, hn9, hn0, by omega, ⟨by simpa using hn9, by simp⟩, rfl, rowL_nil H0.out, Sm.refl w⟩
  case round =>
    clear H0
    obtain ⟨f, A', n', l, rfl, hb9, hb0, hf, LB, RF, H1, S1⟩ := hrel
    by_cases hpos : 0 < n'
    · have d0 : decide (0 < n') = true := by simpa using hpos
      obtain ⟨f, rfl⟩ : ∃ g, f = g + 1 := ⟨f - 1, by omega⟩
      have TK := Lib.hid (take_calls c a K A' (hls u6 l * F) n' wr (H1.out.eqv (by ac_rfl)))
      have TE := takeA_cls A' n'
      have RF2 : Hid ((if (takeA A' n').e = 0 then roomF f (takeA A' n').A (n' - szOf (takeA A' n').h.1) (l ++ [(takeA A' n').h]) else ⟨dropsA (takeA A' n').A l, [], (takeA A' n').e⟩) = roomA A n) := by
        show _ = _
        have := RF.out
        simp only [roomF] at this
        rw [if_pos hpos] at this
        exact this
      obtain ⟨r, hr⟩ : ∃ q, takeA A' n' = q := ⟨_, rfl⟩
      rw [hr] at TK TE RF2
      obtain ⟨rA, ⟨r0, r1, r2⟩, re⟩ := r
      obtain ⟨ao, cap, hv, hcap⟩ := rowA_slice H1.out
      obtain ⟨m, hm⟩ : ∃ q, l.length = q := ⟨_, rfl⟩
      rw [hm] at hv hcap
      have HM := Lib.hid hm
      subst hv
      clear hr RF hm
      go_wp2_with fail
      refine (TK.out).mono ?_
      rintro e w2 ⟨rfl, h2, s2⟩
      simp only [hdlV, hdl]
      have H2 : Hid (Holds w2 (hls (.slice ao m cap) l * (chA c a K * (Ar a rA * F)))) := h2.eqv (by ac_rfl)
      have S2 := Lib.hid (S1.out.trans s2)
      clear h2 s2 TK H1 S1
      by_cases hre : re = 0
      · subst hre
        obtain ⟨c', hc4, hc'⟩ := TE rfl
        have hc' : r0 = (c' : Int) := hc'
        subst hc'
        have RF3 : Hid (roomF f rA (n' - szOf c') (l ++ [((c' : Int), r1, r2)]) = roomA A n) := by have := RF2.out; rw [if_pos rfl] at this; exact this
        obtain ⟨s, hs⟩ : ∃ q, szOf c' = q := ⟨_, rfl⟩
        have hs64 := szOf_64 c' hc4
        have SZ := Lib.hid (fun w => hs ▸ Slab.sizes_calls c' w)
        rw [hs] at RF3 hs64
        have HA : Hid (Holds ((w2.alloc (.cells #[.int .i64 c', .int .i64 r1, .int .i64 r2] 106)).alloc (.cells #[.int .i64 c', .int .i64 r1, .int .i64 r2] 106)) (hls (.slice ao m cap) l * (pts w2.heap.size (.cells #[.int .i64 c', .int .i64 r1, .int .i64 r2] 106) * (chA c a K * (Ar a rA * F))))) := by
          show Holds _ _
          exact (((H2.out.alloc (.cells #[.int .i64 c', .int .i64 r1, .int .i64 r2] 106)).alloc (.cells #[.int .i64 c', .int .i64 r1, .int .i64 r2] 106)).right).eqv (star_left_comm _ _ _)
        have N1 : Hid (l.length + 1 ≤ maxLen) := by show _ ≤ _; have := LB.out.2; unfold maxLen; omega
        have N2 : Hid ((l.length + 1) * 24 ≤ 140737488355328) := by show _ ≤ _; have := LB.out.2; omega
        have LB2 : Hid ((l ++ [((c' : Int), r1, r2)]).length * 64 + (n' - s) ≤ 1100000 ∧ (l ++ [((c' : Int), r1, r2)]).length ≤ 20000) := by
          have := LB.out
          have := HM.out
          show _ ∧ _
          rw [List.length_append, List.length_cons, List.length_nil]
          omega
        have nw : IntKind.i64.wrap (n' - s) = n' - s := IntWalk.i64_in _ (by omega)
        clear TE RF2 hs
        go_wp2_with (at_builtin; refine wpList_append_one (enc := hEnc) rfl _ _ 100 rfl 106 (.agg #[.int .i64 0, .int .i64 0, .int .i64 0]) 3 24 Try.underlying100 infoH rfl ((c' : Int), r1, r2) rfl HA.out ⟨w2.heap.size + 1, 0, none⟩ 1 rfl rfl (by have := cells_new (w2.alloc (.cells #[.int .i64 c', .int .i64 r1, .int .i64 r2] 106)) #[.int .i64 c', .int .i64 r1, .int .i64 r2] 106 _ rfl; rw [World.size_alloc] at this; exact this) (by simp [hEnc, Value.oneCell']) N1.out N2.out ?_)
        intro v' w3 h3 s3
        have hq := h3.eqv (star_left_comm _ _ _)
        have q0 := hq.cell 0
        have ql := hq.lt
        simp at q0
        have H3 : Hid (Holds w3 (hls v' (l ++ [((c' : Int), r1, r2)]) * (chA c a K * (Ar a rA * F)))) := hq.right
        have S3 : Hid (Sm w w3) := ((S2.out.alloc _).alloc _).trans s3
        clear h3 s3 hq HA H2 S2
        go_wp2_with fail
        refine (SZ.out _).mono ?_
        rintro e w' ⟨rfl, rfl⟩
        go_wp2_with fail
        go_roundw
        case rel => exact ⟨f, rA, n' - s, _, rfl, by omega, by omega, by omega, LB2.out, RF3.out, H3.out, S3.out⟩
        case measure => simp [intOf]; omega
      · have e0 : (re != 0) = true := by simpa using hre
        have RF3 : Hid (roomA A n = ⟨dropsA rA l, [], re⟩) := by have := RF2.out; rw [if_neg hre] at this; exact this.symm
        have m9 : m ≤ 20000 := by have := LB.out.2; have := HM.out; omega
        clear RF2 TE hre LB
        go_wp2_with fail
        go_loopw [23] (fun x wl => ∃ q : Nat, q ≤ m ∧ x = .int .i64 q ∧ Hid (Holds wl (hls (.slice ao m cap) l * (chA c a K * (Ar a (dropsA rA (l.take q)) * F)))) ∧ Hid (Sm w wl)) (fun x _ => m - (intOf x).toNat)
        case atStart => exact ⟨0, Nat.zero_le _, rfl, (H2.out.alloc _).right, S2.out.alloc _⟩
        case round =>
          clear H2 S2
          obtain ⟨q, hq, rfl, H3, S3⟩ := hrel
          by_cases hqm : q < m
          · have hql : q < l.length := by rw [HM.out]; exact hqm
            obtain ⟨g, cap2, e1, -, hg, hrc, -⟩ := rowL_cell H3.out hEnc_len q hql
            simp at e1
            obtain ⟨hao, -⟩ := e1
            have k0 := hrc 0 (by omega)
            have k1 := hrc 1 (by omega)
            have k2 := hrc 2 (by omega)
            have ND : Hid (dropH (dropsA rA (l.take q)) l[q] = dropsA rA (l.take (q + 1))) := by
              show _ = _
              rw [List.take_succ_eq_append_getElem hql]
              unfold dropsA
              rw [List.foldl_append]; rfl
            obtain ⟨⟨h0, h1, h2⟩, hh⟩ : ∃ z, l[q] = z := ⟨_, rfl⟩
            rw [hh] at k0 k1 k2 ND
            simp only [hEnc, Nat.add_zero, List.getElem?_cons_zero, List.getElem?_cons_succ] at k0 k1 k2
            have DR := Lib.hid (fun (wq : World) (G : Asr) h => Slab.dropA_calls a (dropsA rA (l.take q)) G h0 h1 h2 wq h)
            have ND2 : Hid ((Slab.dropA (dropsA rA (l.take q)) h0 h1 h2).A = dropsA rA (l.take (q + 1))) := ND.out
            obtain ⟨v, hv⟩ := chA_seen (H3.out.eqv (by ac_rfl : _ = chA c a K * (hls (.slice ao m cap) l * (Ar a (dropsA rA (l.take q)) * F))))
            have c0 := hv.c0
            have cl := hv.lt
            have HX := Lib.hid (H3.out.alloc (.cells #[.int .i64 h0, .int .i64 h1, .int .i64 h2] 106))
            obtain ⟨B8, hB8⟩ : ∃ z, wr.heap.size = z := ⟨_, rfl⟩
            have j0 : (0 : Int) ≤ (q : Int) := by omega
            have j1 : (q : Int) < (m : Int) := by omega
            subst hao
            clear hrc hh hv ND
            simp only [hdl] at DR
            go_upto_region 8 with (fail)
            have S4 := Lib.hid (S3.out.alloc (.cells #[.int .i64 h0, .int .i64 h1, .int .i64 h2] 106))
            obtain ⟨W1, hW1⟩ : ∃ z, wr.alloc (.cells #[.int .i64 h0, .int .i64 h1, .int .i64 h2] 106) = z := ⟨_, rfl⟩
            rw [hB8] at HX
            rw [hW1] at HX S4 ⊢
            obtain ⟨P, hP⟩ : ∃ z, pts B8 (.cells #[.int .i64 h0, .int .i64 h1, .int .i64 h2] 106) * (hls (.slice (some ⟨g, 0, none⟩) m cap) l * (chA c a K * F)) = z := ⟨_, rfl⟩
            have HXP : Hid (Holds W1 (Ar a (dropsA rA (l.take q)) * P)) := by show Holds _ _; rw [← hP]; exact HX.out.eqv (by ac_rfl)
            have PS : Hid (∀ (wq : World) (G : Asr), Holds wq (G * P) → wq.cell? ⟨c, 0, none⟩ = some (.pointer (some ⟨a, 0, none⟩)) ∧ wq.cell? ⟨B8, 0, none⟩ = some (.int .i64 h0) ∧ wq.cell? ⟨B8, 1, none⟩ = some (.int .i64 h1) ∧ wq.cell? ⟨B8, 2, none⟩ = some (.int .i64 h2)) := by
              intro wq G h
              rw [← hP] at h
              obtain ⟨v, hv⟩ := chA_seen (h.eqv (by ac_rfl : _ = chA c a K * (G * (pts B8 (.cells #[.int .i64 h0, .int .i64 h1, .int .i64 h2] 106) * (hls (.slice (some ⟨g, 0, none⟩) m cap) l * F)))))
              have hz := h.eqv (star_left_comm _ _ _)
              have a0 := hz.cell 0
              have a1 := hz.cell 1
              have a2 := hz.cell 2
              simp at a0 a1 a2
              exact ⟨hv.c0, a0, a1, a2⟩
            have BK : Hid (∀ (wq : World) (A4 : List (List ABlk)), Holds wq (Ar a A4 * P) → Holds wq (hls (.slice (some ⟨g, 0, none⟩) m cap) l * (chA c a K * (Ar a A4 * F)))) := by
              intro wq A4 h
              rw [← hP] at h
              exact (h.eqv (by ac_rfl : _ = pts B8 (.cells #[.int .i64 h0, .int .i64 h1, .int .i64 h2] 106) * (hls (.slice (some ⟨g, 0, none⟩) m cap) l * (chA c a K * (Ar a A4 * F))))).right
            have zz := PS.out W1 _ HXP.out
            clear hP hW1 hB8 HX H3 S3
            go_region_held3 (fun w' => w'.cell? ⟨c, 0, none⟩ = some (.pointer (some ⟨a, 0, none⟩)) ∧ w'.cell? ⟨B8, 0, none⟩ = some (.int .i64 h0) ∧ w'.cell? ⟨B8, 1, none⟩ = some (.int .i64 h1) ∧ w'.cell? ⟨B8, 2, none⟩ = some (.int .i64 h2)) (first | exact x2 | exact zz | go_keep) (first | (go_at_call 56; refine (DR.out _ P ?_).mono ?_; (exact HXP.out); rintro e w2 ⟨rfl, h2', s2⟩; have x2 := PS.out w2 _ h2'; have H2 := Lib.hid (BK.out w2 _ h2'); have S2 := Lib.hid (S4.out.drew.trans s2); clear h2' s2))
            rw [ND2.out] at H2
            go_wp2_with fail
            go_roundw
            case rel => exact ⟨q + 1, by omega, by go_num, H2.out, S2.out⟩
            case measure => simp [intOf]; omega
          · obtain rfl : m = q := by omega
            have ET : Hid (dropsA rA (l.take m) = dropsA rA l) := by show _ = _; rw [List.take_of_length_le (by rw [HM.out]; exact Nat.le_refl _)]
            rw [ET.out] at H3
            go_wp2_with fail
            go_ret2
            rw [RF3.out]
            exact ⟨_, rfl, rowL_nil H3.out.right, S3.out⟩
    · have d0 : decide (0 < n') = false := by simpa using hpos
      have RS : Hid (roomA A n = ⟨A', l, 0⟩) := by
        show _ = _
        rw [← RF.out]
        cases f with
        | zero => rfl
        | succ f => simp only [roomF]; rw [if_neg hpos]
      clear RF hpos
      go_wp2_with fail
      go_ret2
      rw [RS.out]
      exact ⟨_, rfl, H1.out, S1.out⟩
#print axioms room_calls
end Go.Proofs.Ytefcinifaaablaa.Chain
