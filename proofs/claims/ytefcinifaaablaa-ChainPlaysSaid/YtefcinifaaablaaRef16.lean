/-
  Layer 16: the document's chain in memory; Charge, take.
-/
import Derived.Test.YtefcinifaaablaaChainEr
import Derived.Test.YtefcinifaaablaaRef15b
namespace Go.Proofs.Ytefcinifaaablaa.Chain
open Go.RowKit Go.Sep
open Go.Proofs.Ytefcinifaaablaa.Slab (szOf szN szN_val clsFor ABlk allocA dropA holdA writeA readA Took u8s Src)
set_option maxRecDepth 100000
set_option linter.unusedVariables false
set_option linter.unusedSimpArgs false

structure RCh where
  l : List Hd
  bytes : List Int
  shared : Bool
  freed : Bool
def rcH (r y : Nat) (v vb : Value) (R : RCh) : Asr := pts r (.cells #[.pointer (some ⟨y, 0, none⟩), v, vb, .bool R.shared, .bool R.freed] 46 (0, 0))
def rls (v : Value) (l : List Hd) : Asr := rowL 117 3 hEnc v l
def rbs (v : Value) (b : List Int) : Asr := rowA 5 1 v b.length (u8s b)
def rcA (r y : Nat) (R : RCh) : Asr := ex fun v => ex fun vb => rcH r y v vb R * (rls v R.l * rbs vb R.bytes)
theorem rc_open {w : World} {r y : Nat} {R : RCh} {F : Asr} (h : Holds w (rcA r y R * F)) : ∃ v vb, Holds w (rcH r y v vb R * (rls v R.l * (rbs vb R.bytes * F))) := by
  unfold rcA at h
  rw [ex_star] at h
  obtain ⟨v, h⟩ := holds_ex.1 h
  rw [ex_star] at h
  obtain ⟨vb, h⟩ := holds_ex.1 h
  exact ⟨v, vb, h.eqv (by ac_rfl)⟩
theorem rc_shut {w : World} {r y : Nat} {v vb : Value} {R : RCh} {F : Asr} (h : Holds w (rcH r y v vb R * (rls v R.l * (rbs vb R.bytes * F)))) : Holds w (rcA r y R * F) := by
  unfold rcA
  rw [ex_star]
  refine holds_ex.2 ⟨v, ?_⟩
  rw [ex_star]
  exact holds_ex.2 ⟨vb, h.eqv (by ac_rfl)⟩
structure RSeen (w : World) (r y : Nat) (v vb : Value) (R : RCh) : Prop where
  lt : r < w.heap.size
  c0 : w.cell? ⟨r, 0, none⟩ = some (.pointer (some ⟨y, 0, none⟩))
  c1 : w.cell? ⟨r, 1, none⟩ = some v
  c2 : w.cell? ⟨r, 2, none⟩ = some vb
  c3 : w.cell? ⟨r, 3, none⟩ = some (.bool R.shared)
  c4 : w.cell? ⟨r, 4, none⟩ = some (.bool R.freed)
  f : ∀ j, w.frozen? ⟨r, j, none⟩ = false
theorem rc_seen {w : World} {r y : Nat} {v vb : Value} {R : RCh} {F : Asr} (h : Holds w (rcH r y v vb R * F)) : RSeen w r y v vb R :=
  ⟨h.lt, h.cell 0, h.cell 1, h.cell 2, h.cell 3, h.cell 4, h.frozen⟩
theorem infoB : (Try.prog.info? 117).map (fun i => (i.zero, i.size, i.bytes)) = some (some (.agg #[.int .i64 0, .int .i64 0, .int .i64 0]), 3, 24) := by kernel_rfl
theorem sizes_take (l : List Hd) (k : Nat) (hk : k < l.length) : sizes (l.take (k + 1)) = sizes (l.take k) + szOf l[k].1 := by
  rw [List.take_succ_eq_append_getElem hk, sizes_snoc]

set_option maxHeartbeats 2000000 in
theorem rcharge_calls (r y : Nat) (R : RCh) (F : Asr) (w : World) (h9 : R.l.length ≤ 20000) (hc : ∀ h ∈ R.l, ∃ j : Nat, j < 4 ∧ h.1 = j) (hw : Holds w (rcA r y R * F)) :
    Calls Try.prog 24 #[.pointer (some ⟨r, 0, none⟩)] w fun e w' => e = .returned (.int .i64 (sizes R.l)) ∧ Below w.heap.size w w' := by
  obtain ⟨v, vb, h0⟩ := rc_open hw
  obtain ⟨ao, cap, e1, hcap⟩ := rowA_slice (h0.eqv (star_left_comm _ _ _))
  subst e1
  have H0 := Lib.hid h0
  obtain ⟨m, hm⟩ : ∃ q, R.l.length = q := ⟨_, rfl⟩
  rw [hm] at h9
  have HM := Lib.hid hm
  have HC := Lib.hid hc
  clear hw h0 hcap hm hc
  go_enter Try.func24, Try.ntmps24
  go_wp2_with fail
  go_loopw [3, 4] (fun x z wl => ∃ k : Nat, k ≤ m ∧ x = .int .i64 (sizes (R.l.take k)) ∧ z = .int .i64 k ∧ Hid (Below w.heap.size w wl)) (fun _ z _ => m - (intOf z).toNat)
  case atStart => exact ⟨0, Nat.zero_le _, by simp [sizes], rfl, Below.refl _ _⟩
  case round =>
    obtain ⟨k, hk, rfl, rfl, B1⟩ := hrel
    have h1 := H0.out.grow B1.out
    have cs := rc_seen h1
    have c1 := cs.c1
    have cl := cs.lt
    rw [HM.out] at c1
    by_cases hkm : k < m
    · have hkl : k < R.l.length := by rw [HM.out]; exact hkm
      obtain ⟨g, cap2, e1', -, hg, hrc, -⟩ := rowL_cell (h1.eqv (star_left_comm _ _ _)) hEnc_len k hkl
      rw [HM.out] at e1'
      simp at e1'
      obtain ⟨hao, -⟩ := e1'
      have k0 := hrc 0 (by omega)
      have ES : Hid (sizes (R.l.take (k + 1)) = sizes (R.l.take k) + szOf R.l[k].1) := sizes_take _ _ hkl
      obtain ⟨j, hj4, hj⟩ := HC.out R.l[k] (List.getElem_mem _)
      have SL := sizes_le (R.l.take k) (fun h hh => HC.out h (List.mem_of_mem_take hh))
      have LT : (R.l.take k).length ≤ 20000 := by rw [List.length_take]; omega
      obtain ⟨⟨a0, a1, a2⟩, hh⟩ : ∃ z, R.l[k] = z := ⟨_, rfl⟩
      rw [hh] at k0 ES hj
      simp only [hEnc, Nat.add_zero, List.getElem?_cons_zero] at k0
      have hj : a0 = (j : Int) := hj
      subst hj
      obtain ⟨sz, hs⟩ : ∃ q, szOf j = q := ⟨_, rfl⟩
      have hs64 := szOf_64 j hj4
      rw [hs] at hs64
      have ES2 : Hid (sizes (R.l.take (k + 1)) = sizes (R.l.take k) + sz) := by show _ = _; rw [← hs]; exact ES.out
      have SZ := Lib.hid (fun w => hs ▸ Ref15.sizes_calls j w)
      obtain ⟨t, ht⟩ : ∃ q, sizes (R.l.take k) = q := ⟨_, rfl⟩
      rw [ht] at ES2 SL ⊢
      have tw : IntKind.i64.wrap (t + sz) = t + sz := IntWalk.i64_in _ (by omega)
      have i0 : (0 : Int) ≤ (k : Int) := by omega
      have i1 : (k : Int) < (m : Int) := by omega
      subst hao
      clear hrc hh h1 cs ht hs ES SL LT
      go_wp2_with fail
      refine (SZ.out _).mono ?_
      rintro e w2 ⟨rfl, hb⟩
      have B2 := Lib.hid (B1.out.trans (hb.mono B1.out.size))
      clear hb B1
      go_wp2_with fail
      go_roundw
      case rel => exact ⟨k + 1, by omega, by rw [ES2.out], by go_num, B2.out⟩
      case measure => simp [intOf]; omega
    · obtain rfl : m = k := by omega
      have ET : Hid (R.l.take m = R.l) := List.take_of_length_le (by rw [HM.out]; exact Nat.le_refl _)
      clear h1 cs
      rw [ET.out]
      go_wp2_with fail
      go_ret
      exact ⟨rfl, B1.out⟩
#print axioms rcharge_calls

/-! ### take -/
def clsAt (n : Int) : Nat → Nat
  | 0 => 3
  | k + 1 => if n ≤ szOf (2 - (k : Int)) then 2 - k else clsAt n k
theorem clsAt_top (n : Int) : clsAt n 3 = topC n := by
  simp only [clsAt, topC]
  simp only [show (2 - ((2 : Nat) : Int)) = 0 from rfl, show (2 - ((1 : Nat) : Int)) = 1 from rfl, show (2 - ((0 : Nat) : Int)) = 2 from rfl]
  simp [szOf]
def RTakeC (X : Nat → Int) (r y : Nat) (R : RCh) (t : Took) (F : Asr) (w : World) (e : Ending) (w' : World) : Prop :=
  e = .returned (.bool (decide (t.e = 0))) ∧ Holds w' (rcA r y { R with l := if t.e = 0 then R.l ++ [t.h] else R.l } * (RAr X y t.A * F)) ∧ Sm w w'
theorem takeN_eq (A : List (List ABlk)) (n : Int) : takeA A n = takeN (topC n + 1) A := rfl
set_option maxHeartbeats 4000000 in
theorem rtake_calls (X : Nat → Int) (r y : Nat) (R : RCh) (A : List (List ABlk)) (F : Asr) (n : Int) (w : World) (h9 : R.l.length ≤ 20000) (hw : Holds w (rcA r y R * (RAr X y A * F))) :
    Calls Try.prog 51 #[.pointer (some ⟨r, 0, none⟩), .int .i64 n] w (RTakeC X r y R (takeA A n) F w) := by
  have H0 := Lib.hid hw
  clear hw
  go_enter Try.func51, Try.ntmps51
  go_wp2_with fail
  go_loopw [5, 6] (fun x z wl => ∃ j : Nat, j ≤ 3 ∧ x = .int .i64 (clsAt n j : Nat) ∧ z = .int .i64 (2 - (j : Int)) ∧ Hid (Below w.heap.size w wl)) (fun _ z _ => (intOf z + 1).toNat)
  case atStart => exact ⟨0, by omega, rfl, rfl, Below.refl _ _⟩
  case round =>
    obtain ⟨j, hj, rfl, rfl, B1⟩ := hrel
    by_cases hj3 : j < 3
    · obtain ⟨q, hq⟩ : ∃ q : Nat, 2 - (j : Int) = q := ⟨2 - j, by omega⟩
      have ES : Hid (clsAt n (j + 1) = if n ≤ szOf q then q else clsAt n j) := by
        show _ = _
        simp only [clsAt, hq]
        have : 2 - j = q := by omega
        rw [this]
      have hq2 : Hid (2 - ((j + 1 : Nat) : Int) = (q : Int) - 1) := by show _ = _; omega
      have qw : IntKind.i64.wrap ((q : Int) - 1) = (q : Int) - 1 := IntWalk.i64_in _ (by omega)
      have q9 : q ≤ 2 := by omega
      have q0 : decide ((0 : Int) ≤ (q : Int)) = true := by simp
      rw [hq]
      obtain ⟨s, hs⟩ : ∃ z, szOf q = z := ⟨_, rfl⟩
      rw [hs] at ES
      have SZ := Lib.hid (fun w => hs ▸ Ref15.sizes_calls q w)
      obtain ⟨cj, hcj⟩ : ∃ z, clsAt n j = z := ⟨_, rfl⟩
      rw [hcj] at ES ⊢
      have HQ := Lib.hid hq
      clear hs hq hcj
      by_cases hn : n ≤ s
      · have d1 : decide (n ≤ s) = true := by simpa using hn
        have ES2 : Hid (clsAt n (j + 1) = q) := by show _ = _; rw [ES.out, if_pos hn]
        clear ES hn
        go_wp2_with fail
        refine (SZ.out _).mono ?_
        rintro e w2 ⟨rfl, hb⟩
        have B2 := Lib.hid (B1.out.trans (hb.mono B1.out.size))
        clear hb B1
        go_wp2_with fail
        go_roundw
        case rel => exact ⟨j + 1, by omega, by rw [ES2.out], by rw [hq2.out], B2.out⟩
        case measure => first | (simp [intOf]; done) | (simp [intOf]; omega)
      · have d1 : decide (n ≤ s) = false := by simpa using hn
        have ES2 : Hid (clsAt n (j + 1) = cj) := by show _ = _; rw [ES.out, if_neg hn]
        clear ES hn
        go_wp2_with fail
        refine (SZ.out _).mono ?_
        rintro e w2 ⟨rfl, hb⟩
        have B2 := Lib.hid (B1.out.trans (hb.mono B1.out.size))
        clear hb B1
        go_wp2_with fail
        go_roundw
        case rel => exact ⟨j + 1, by omega, by rw [ES2.out], by rw [hq2.out], B2.out⟩
        case measure => first | (simp [intOf]; done) | (simp [intOf]; omega)
    · obtain rfl : j = 3 := by omega
      rw [show (2 - ((3 : Nat) : Int)) = -1 from rfl]
      have d2 : decide ((0 : Int) ≤ -1) = false := by decide
      have H1 := Lib.hid (H0.out.grow B1.out)
      have S1 : Hid (Sm w wr) := .of_below B1.out
      rw [clsAt_top]
      have T0 : Hid (takeN (topC n + 1) A = takeA A n) := rfl
      have T3 := topC_le n
      obtain ⟨t, ht⟩ : ∃ q, topC n = q := ⟨_, rfl⟩
      rw [ht] at T0 T3 ⊢
      clear H0 B1 ht hj hj3
      go_wp2_with fail
      go_loopw [5] (fun x wl => ∃ (j : Nat) (A' : List (List ABlk)), j ≤ 4 ∧ x = .int .i64 ((j : Int) - 1) ∧ Hid (takeN j A' = takeA A n) ∧ Hid (Holds wl (rcA r y R * (RAr X y A' * F))) ∧ Hid (Sm w wl)) (fun x _ => (intOf x + 1).toNat)
      case atStart => exact ⟨t + 1, A, by omega, by rw [show ((t + 1 : Nat) : Int) - 1 = t by omega], T0.out, H1.out, S1.out⟩
      case round =>
        clear H1 T0 S1 T3 d2
        obtain ⟨j, A', hj, rfl, T0, H1, S1⟩ := hrel
        cases j with
        | zero =>
          have d0 : decide ((0 : Int) ≤ ((0 : Nat) : Int) - 1) = false := by decide
          have d1 : decide ((0 : Int) ≤ (0 : Int) - 1) = false := by decide
          have d2 : decide ((0 : Int) ≤ -1) = false := by decide
          have RS : Hid (takeA A n = ⟨A', (0, 0, 0), 14⟩) := T0.out.symm
          clear T0
          go_wp2_with fail
          go_ret
          refine ⟨by rw [RS.out]; rfl, ?_, S1.out⟩
          rw [RS.out]
          exact H1.out
        | succ i =>
          have ie : ((i + 1 : Nat) : Int) - 1 = (i : Int) := by omega
          rw [ie]
          have i0 : decide ((0 : Int) ≤ (i : Int)) = true := by simp
          have iw : IntKind.i64.wrap ((i : Int) - 1) = (i : Int) - 1 := IntWalk.i64_in _ (by omega)
          obtain ⟨s, hs⟩ : ∃ q, szOf i = q := ⟨_, rfl⟩
          have SZ := Lib.hid (fun w => hs ▸ Ref15.sizes_calls i w)
          have T1 : Hid ((if (allocA A' s).e = 0 then allocA A' s else takeN i (allocA A' s).A) = takeA A n) := by
            show _ = _
            have := T0.out
            simp only [takeN, hs] at this
            exact this
          have AL := Lib.hid (fun (wq : World) (G : Asr) h => r_alloc X y A' G s wq h)
          have PS : Hid (∀ (wq : World) (G : Asr), Holds wq (rcA r y R * G) → wq.cell? ⟨r, 0, none⟩ = some (.pointer (some ⟨y, 0, none⟩)) ∧ r < wq.heap.size) := by
            intro wq G h
            obtain ⟨v, vb, h2⟩ := rc_open h
            have := rc_seen h2
            exact ⟨this.c0, this.lt⟩
          obtain ⟨c0, cl⟩ := PS.out _ _ H1.out
          obtain ⟨tk, hr⟩ : ∃ q, allocA A' s = q := ⟨_, rfl⟩
          rw [hr] at T1
          simp only [hr] at AL
          obtain ⟨rA, ⟨r0, r1, r2⟩, re⟩ := tk
          simp only at AL
          have HX := Lib.hid (fun wq (hb : Below wr.heap.size wr wq) => (H1.out.grow hb).eqv (star_left_comm _ _ _))
          have CX := Lib.hid (fun wq (hb : Below wr.heap.size wr wq) => (PS.out _ _ (H1.out.grow hb)).1)
          have SX := Lib.hid (fun wq (hb : Below wr.heap.size wr wq) => S1.out.grow hb)
          clear hr hs T0 ie H1 S1
          go_upto_region 8 with (fail)
          go_region_held3 (fun w' => w'.cell? ⟨r, 0, none⟩ = some (.pointer (some ⟨y, 0, none⟩))) (first | exact x3 | exact x2 | exact c0 | go_keep) (first | (go_at_call 53; refine (SZ.out _).mono ?_; rintro e w2 ⟨rfl, hb⟩; have B2 := Lib.hid ((Below.refl wr.heap.size wr).drew.trans hb); have x2 := CX.out w2 B2.out; clear hb) | (go_at_call 74; refine (AL.out _ (rcA r y R * F) ?_).mono ?_; (exact HX.out _ B2.out); rintro e w3 ⟨rfl, h3, s3⟩; have x3 := (PS.out w3 _ (h3.eqv (star_left_comm _ _ _))).1; have H3 := Lib.hid h3; have S3 := Lib.hid ((SX.out _ B2.out).trans s3); clear h3 s3))
          clear AL SZ HX CX SX
          by_cases hre : re = 0
          · subst hre
            have RS : Hid (takeA A n = ⟨rA, (r0, r1, r2), 0⟩) := by have := T1.out; rw [if_pos rfl] at this; exact this.symm
            obtain ⟨v, vb, h4⟩ := rc_open (H3.out.eqv (star_left_comm _ _ _))
            obtain ⟨ao, cap, e1, -⟩ := rowA_slice (h4.eqv (star_left_comm _ _ _))
            subst e1
            have cs := rc_seen h4
            have x1 := cs.c1
            have xl := cs.lt
            have x1' : (w3.alloc (.cells #[.int .i64 r0, .int .i64 r1, .int .i64 r2] 117)).cell? ⟨r, 1, none⟩ = some (.slice ao R.l.length cap) := (World.cell?_alloc_lt _ _ _ xl).trans x1
            have HA := Lib.hid ((h4.eqv (star_left_comm _ _ _)).alloc (.cells #[.int .i64 r0, .int .i64 r1, .int .i64 r2] 117)).right
            have N1 : Hid (R.l.length + 1 ≤ maxLen) := by show _ ≤ _; unfold maxLen; omega
            have N2 : Hid ((R.l.length + 1) * 24 ≤ 140737488355328) := by show _ ≤ _; omega
            clear T1 h4 cs PS
            go_wp2_with (at_builtin; refine wpList_append_sep rfl _ _ 44 rfl 117 (.agg #[.int .i64 0, .int .i64 0, .int .i64 0]) 3 24 Try.underlying44 infoB rfl rfl HA.out ⟨w3.heap.size, 0, none⟩ 1 1 [.int .i64 r0, .int .i64 r1, .int .i64 r2] rfl rfl (cells_new w3 #[.int .i64 r0, .int .i64 r1, .int .i64 r2] 117 _ rfl) (by simp [Value.oneCell']) N1.out N2.out ?_)
            intro v' w4 h4 s4 hz
            clear hz
            obtain ⟨ao', cap', hv', -⟩ := rowA_slice h4
            subst hv'
            have hr := h4.eqv (star_left_comm _ _ _)
            have z1 := hr.cell 1
            have zl := hr.lt
            have zf := hr.frozen 1
            simp at z1
            have hst := (hr.store 1 (.slice ao' (R.l.length + 1) cap')).eqv (star_left_comm _ _ _)
            have HF : Hid (Holds _ _) := rowL_snoc (x := ((r0, r1, r2) : Hd)) (enc := hEnc) hst rfl
            have SF := Lib.hid (((S3.out.alloc (.cells #[.int .i64 r0, .int .i64 r1, .int .i64 r2] 117)).trans s4).setCell ⟨r, 1, none⟩ (.slice ao' (R.l.length + 1) cap'))
            clear h4 s4 hr hst HA
            go_wp2_with fail
            go_ret
            refine ⟨by rw [RS.out]; rfl, ?_, SF.out⟩
            rw [RS.out]
            exact rc_shut (v := .slice ao' (R.l.length + 1) cap') (vb := vb) (R := { R with l := R.l ++ [(r0, r1, r2)] }) (HF.out.eqv (star_left_comm _ _ _))
          · have T2 : Hid (takeN i rA = takeA A n) := by have := T1.out; rw [if_neg hre] at this; exact this
            have re0 : (re == 0) = false := by simpa using hre
            have H4 := Lib.hid (H3.out.eqv (star_left_comm _ _ _))
            clear T1 H3 hre PS
            go_wp2_with fail
            go_roundw
            case rel => exact ⟨i, rA, by omega, by go_num, T2.out, H4.out, S3.out⟩
            case measure => first | (simp [intOf]; done) | (simp [intOf]; omega)
#print axioms rtake_calls
end Go.Proofs.Ytefcinifaaablaa.Chain
