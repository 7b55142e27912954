/-
  StripeTenants, the walk.
-/
import Derived.Test.YtefcinifaaablaaStrT
import Derived.Test.YtefcinifaaablaaReg
import Derived.Deep.CutBlock
import Derived.Laws.IdiomStrings
import Derived.Deep.DeepCutAuto
namespace Go.Proofs.Ytefcinifaaablaa.Stripe
open Go.RowKit Go.Sep
set_option maxRecDepth 100000
set_option linter.unusedVariables false
set_option linter.unusedSimpArgs false

theorem tb_nd {tb gb nb : Nat} {L : List En} {F : Asr} {w : World} (hw : Holds w (TB tb gb nb L * F)) : (L.map nmE).Nodup := by
  obtain ⟨Bs, hr, -⟩ := tb_open hw
  exact hr.nd
theorem getL_mem {L : List En} (hn : (L.map nmE).Nodup) {t : Int} {k : List UInt8} {v : Int} (h : (t, k, v) ∈ L) : getL L t k = (v, true) := by
  unfold getL
  rw [fnd_some hn h]
theorem getL_not {L : List En} {t : Int} {k : List UInt8} (h : ∀ v, (t, k, v) ∉ L) : getL L t k = (0, false) := by
  unfold getL
  rw [fnd_none h]
theorem putL_new {L : List En} {nb : Nat} {t : Int} {k : List UInt8} {v : Int} (ht : 0 ≤ t ∧ t < 16) (hk : k.length ≤ 512) (hl : L.length < 4096) (h : ∀ v, (t, k, v) ∉ L) : putL L nb t k v = ((0, false, 0), L ++ [(t, k, v)]) := by
  have hs : stL L nb (hN t k % nb) ≠ 4096 := by
    have := List.countP_le_length (p := fun e : En => decide (hN e.1 e.2.1 % nb = hN t k % nb)) (l := L)
    unfold stL
    omega
  unfold putL
  rw [if_neg (by omega), fnd_none h]
  simp only
  rw [if_neg hs]
theorem put_cases (L : List En) (nb : Nat) (t : Int) (k : List UInt8) (v : Int) : (putL L nb t k v).2 = L ∨ (putL L nb t k v).2 = updL L t k v ∨ (putL L nb t k v).2 = L ++ [(t, k, v)] := by
  unfold putL
  split
  · exact .inl rfl
  · split
    · exact .inr (.inl rfl)
    · split
      · exact .inl rfl
      · exact .inr (.inr rfl)
theorem del_cases (L : List En) (t : Int) (k : List UInt8) : (delR L t k).2 = L ∨ (delR L t k).2 = delL L t k := by
  unfold delR
  split
  · exact .inr rfl
  · exact .inl rfl
theorem rep_cases (L : List En) (t : Int) (k : List UInt8) (old v : Int) : (repR L t k old v).2 = L ∨ (repR L t k old v).2 = updL L t k v := by
  unfold repR
  split
  · split
    · exact .inr rfl
    · exact .inl rfl
  · exact .inl rfl
def kA (i : Nat) : List UInt8 := [UInt8.ofNat (97 + i)]
structure InvT (L : List En) : Prop where
  mem : ∀ k : Nat, k < 4 → ((2 : Int), kA k, (k : Int)) ∈ L
  two : L.countP (fun e => decide (e.1 = 2)) = 4
  one : ∀ e ∈ L, e.1 = 1 ∨ e.1 = 2
theorem inv_upd {L : List En} (h : InvT L) (k : List UInt8) (v : Int) : InvT (updL L 1 k v) := by
  refine ⟨fun j hj => ?_, ?_, fun e he => ?_⟩
  · unfold updL
    exact List.mem_map.2 ⟨_, h.mem j hj, by rw [if_neg (by simp)]⟩
  · unfold updL
    rw [List.countP_map, ← h.two]
    apply List.countP_congr
    intro e he
    simp only [Function.comp, decide_eq_true_eq]
    split
    · rename_i h1
      simp [h1.1]
    · rfl
  · unfold updL at he
    obtain ⟨e0, h0, rfl⟩ := List.mem_map.1 he
    split
    · exact .inl rfl
    · exact h.one _ h0
theorem inv_add {L : List En} (h : InvT L) (k : List UInt8) (v : Int) : InvT (L ++ [(1, k, v)]) := by
  refine ⟨fun j hj => List.mem_append.2 (.inl (h.mem j hj)), ?_, fun e he => ?_⟩
  · rw [List.countP_append, h.two]; rfl
  · rcases List.mem_append.1 he with h1 | h1
    · exact h.one _ h1
    · simp only [List.mem_singleton] at h1
      subst h1
      exact .inl rfl
theorem inv_del {L : List En} (h : InvT L) (k : List UInt8) : InvT (delL L 1 k) := by
  refine ⟨fun j hj => ?_, ?_, fun e he => ?_⟩
  · unfold delL
    exact List.mem_filter.2 ⟨h.mem j hj, by simp⟩
  · unfold delL
    rw [List.countP_filter, ← h.two]
    apply List.countP_congr
    intro e he
    constructor
    · intro h1
      simp only [Bool.and_eq_true] at h1
      exact h1.1
    · intro h1
      have h2 := of_decide_eq_true h1
      simp [h2]
  · unfold delL at he
    exact h.one _ (List.mem_filter.1 he).1
theorem inv_put {L : List En} (h : InvT L) (nb : Nat) (k : List UInt8) (v : Int) : InvT (putL L nb 1 k v).2 := by
  rcases put_cases L nb 1 k v with e | e | e <;> rw [e]
  · exact h
  · exact inv_upd h k v
  · exact inv_add h k v
theorem inv_delR {L : List En} (h : InvT L) (k : List UInt8) : InvT (delR L 1 k).2 := by
  rcases del_cases L 1 k with e | e <;> rw [e]
  · exact h
  · exact inv_del h k
theorem inv_rep {L : List En} (h : InvT L) (k : List UInt8) (old v : Int) : InvT (repR L 1 k old v).2 := by
  rcases rep_cases L 1 k old v with e | e <;> rw [e]
  · exact h
  · exact inv_upd h k v
theorem okE_nil (t : Int) (e : En) : okE t [] e = decide (e.1 = t) := by simp [okE]
theorem scan_cnt (L : List En) (t : Int) : (scanE L t []).length = L.countP (fun e => decide (e.1 = t)) := by
  unfold scanE
  rw [List.length_map, List.countP_eq_length_filter]
  have : okE t [] = fun e : En => decide (e.1 = t) := funext fun e => okE_nil t e
  rw [this]
theorem inv_two {L : List En} (h : InvT L) : (scanE L 2 []).length = 4 := by rw [scan_cnt, h.two]
theorem cnt_12 : ∀ {L : List En}, (∀ e ∈ L, e.1 = 1 ∨ e.1 = 2) → L.length = L.countP (fun e => decide (e.1 = 2)) + L.countP (fun e => decide (e.1 = 1))
  | [], _ => rfl
  | e :: L, h => by
    have ih := cnt_12 (L := L) fun e he => h e (List.mem_cons_of_mem _ he)
    rw [List.countP_cons, List.countP_cons, List.length_cons, ih]
    rcases h e (List.mem_cons_self ..) with h1 | h1
    · rw [if_neg (by simp [h1]), if_pos (by simp [h1])]; omega
    · rw [if_pos (by simp [h1]), if_neg (by simp [h1])]; omega
theorem inv_len {L : List En} (h : InvT L) : L.length = 4 + (scanE L 1 []).length := by rw [scan_cnt, cnt_12 h.one, h.two]
def L4 (i : Nat) : List En := (List.range i).map fun j => ((2 : Int), kA j, (j : Int))
theorem L4_put (i : Nat) (hi : i < 4) : putL (L4 i) 3 2 (kA i) i = ((0, false, 0), L4 (i + 1)) := by
  rw [putL_new (by omega) (by simp [kA]) (by simp [L4]; omega) ?_]
  · simp [L4, List.range_succ]
  · intro v hv
    unfold L4 at hv
    obtain ⟨j, hj, e⟩ := List.mem_map.1 hv
    rw [List.mem_range] at hj
    simp only [Prod.mk.injEq, kA, List.cons.injEq, and_true, true_and] at e
    have := congrArg UInt8.toNat e.1
    rw [UInt8.toNat_ofNat', UInt8.toNat_ofNat'] at this
    omega
theorem L4_inv : InvT (L4 4) := by
  refine ⟨fun k hk => ?_, rfl, fun e he => ?_⟩
  · exact List.mem_map.2 ⟨k, List.mem_range.2 hk, rfl⟩
  · obtain ⟨j, -, rfl⟩ := List.mem_map.1 he
    exact .inr rfl
theorem one_convS (wr : World) (x : UInt8) : (convert 30 9 (.slice (some ⟨wr.heap.size, 0, none⟩) 1 1)).run Try.prog (wr.alloc (.cells #[.int .u8 (x.toNat : Int)] 5)) = .ok (.string (ks [x])) (wr.alloc (.cells #[.int .u8 (x.toNat : Int)] 5)) :=
  run_convert_bytes_back _ 30 9 5 ⟨wr.heap.size, 0, none⟩ 1 [x] Try.underlying30 Try.underlying5 Try.underlying9 (fun j hj => by
    rw [Addr.add_lit, Nat.zero_add, World.cell?_alloc_new]
    have : j = 0 := by simp at hj; omega
    subst this
    rfl)
theorem and3_u8 (x : Int) (h0 : 0 ≤ x) (h1 : x < 256) : ∃ m : Nat, m < 4 ∧ bits .and .u8 x 3 = (m : Int) := by
  have h : ∀ k : Fin 256, bits .and .u8 (k.val : Int) 3 = ((k.val % 4 : Nat) : Int) := by decide +kernel
  have h2 := h ⟨x.toNat, by omega⟩
  simp only at h2
  rw [show ((x.toNat : Nat) : Int) = x by omega] at h2
  exact ⟨x.toNat % 4, by omega, h2⟩
theorem row_at {w : World} {a : Option Addr} {n c : Nat} {zs : List Int} (h : IsRow .u8 w a n c zs) (i : Nat) (hi : i < n) : ∃ g o x, a = some ⟨g, o, none⟩ ∧ w.cell? ⟨g, o + i, none⟩ = some (.int .u8 x) ∧ 0 ≤ x ∧ x < 256 := by
  rcases h with ⟨rfl, rfl, -⟩ | ⟨x, rfl, h1, h2, h3, h4, h5⟩
  · omega
  · obtain ⟨g, o, s⟩ := x
    have c0 := h4 0 (by omega)
    have hs := World.cell?_spot c0
    simp only [Addr.add, if_pos] at hs
    subst hs
    have hi2 : i < zs.length := by omega
    have := h4 i hi2
    rw [Addr.add_lit] at this
    have hw := h5 (zs.getD i 0) (by rw [List.getD_eq_getElem?_getD, List.getElem?_eq_getElem hi2]; exact List.getElem_mem _)
    obtain ⟨x, hx⟩ : ∃ q, zs.getD i 0 = q := ⟨_, rfl⟩
    rw [hx] at hw this
    refine ⟨g, o, x, rfl, this, ?_⟩
    simp [Lit.wf, show IntKind.u8.min = 0 from rfl, show IntKind.u8.max = 255 from rfl] at hw
    omega
theorem cell_lt {w : World} {a : Addr} {v : Value} (h : w.cell? a = some v) : a.block < w.heap.size := by
  rcases Nat.lt_or_ge a.block w.heap.size with h' | h'
  · exact h'
  · simp [World.cell?, Array.getElem?_eq_none h'] at h
set_option maxHeartbeats 16000000 in
theorem tenants_walk (a1 a2 : Option Addr) (n1 c1 n2 c2 : Nat) (z1 z2 : List Int) (w : World) (hk : IsRow .u8 w a1 n1 c1 z1) (hy : IsRow .u8 w a2 n2 c2 z2) :
    Calls Try.prog 8 #[.slice a1 n1 c1, .slice a2 n2 c2] w fun e w' => e = .returned (.bool true) ∧ Below w.heap.size w w' := by
  have HK := Lib.hid (row_at hk)
  have HY := Lib.hid (row_at hy)
  have NC : Hid (Calls Try.prog 31 #[.int .i64 3] w (NewC 3 (all w) w)) := new_calls 3 (by omega) (by omega) (all w) w (holds_all w)
  clear hk hy
  go_enter Try.func8, Try.ntmps8
  go_wp2_with fail
  refine (NC.out).mono ?_
  rintro e w1 ⟨tb, gb, rfl, h1, s1⟩
  have H1 := Lib.hid h1
  have S1 := Lib.hid s1
  clear h1 s1 NC
  go_wp2_with fail
  go_loopw [7] (fun x7 wl => ∃ i : Nat, x7 = .int .i64 i ∧ i ≤ 4 ∧ Hid (Holds wl (TB tb gb 3 (L4 i) * all w)) ∧ Hid (Sm w wl)) (fun x7 _ => 4 - (intOf x7).toNat)
  case atStart => exact ⟨0, rfl, by omega, H1.out, S1.out⟩
  case round =>
    clear H1 S1
    obtain ⟨i, rfl, hi, HH, HS⟩ := hrel
    by_cases hi4 : i < 4
    · have t0 : decide ((i : Int) < 4) = true := decide_eq_true (by omega)
      have t0' : decide (i < 4) = true := decide_eq_true hi4
      obtain ⟨c, hc⟩ : ∃ c : Nat, 97 + i = c := ⟨_, rfl⟩
      have a1 : IntKind.i64.wrap (97 + (i : Int)) = (c : Int) := by rw [IntWalk.i64_in _ (by omega)]; omega
      have e9 : ((UInt8.ofNat (97 + i)).toNat : Int) = (c : Int) := by rw [UInt8.toNat_ofNat']; omega
      have a2 : IntKind.u8.wrap (c : Int) = (c : Int) := IntWalk.u8_in _ (by omega)
      have a3 : (c : Int) % 256 = (c : Int) := by omega
      have CV := one_convS wr (UInt8.ofNat (97 + i))
      rw [e9] at CV
      have HA := (HH.out.alloc (.cells #[.int .u8 (c : Int)] 5)).right
      have PC := Lib.hid (putT_calls tb gb 3 (L4 i) 2 (kA i) i (by simp [kA]) (all w) _ HA)
      rw [L4_put i hi4] at PC
      unfold kA at PC
      obtain ⟨N, hN⟩ : ∃ q, ks [UInt8.ofNat (97 + i)] = q := ⟨_, rfl⟩
      rw [hN] at PC CV
      have HS2 := Lib.hid (HS.out.alloc (.cells #[.int .u8 (c : Int)] 5))
      clear HA HH HS e9 hN hc
      go_wp2_with fail
      refine (PC.out).mono ?_
      rintro e w2 ⟨rfl, h2, s2⟩
      have H2 := Lib.hid h2
      have S2 := Lib.hid (HS2.out.trans s2)
      clear h2 s2 PC HS2
      go_wp2_with fail
      go_roundw
      case rel => exact ⟨i + 1, by go_num, by omega, H2.out, S2.out⟩
      case measure => simp [intOf]; omega
    · obtain rfl : i = 4 := by omega
      clear hi4 hi
      rw [show ((4 : Nat) : Int) = (4 : Int) from rfl]
      go_wp2_with fail
      go_loopw [8] (fun x8 wl => ∃ (i : Nat) (Lx : List En), x8 = .int .i64 i ∧ i ≤ 60 ∧ Hid (InvT Lx) ∧ Hid (Holds wl (TB tb gb 3 Lx * all w)) ∧ Hid (Sm w wl)) (fun x8 _ => 60 - (intOf x8).toNat)
      case atStart => exact ⟨0, _, rfl, by omega, L4_inv, HH.out, HS.out⟩
      case round =>
        clear HH HS
        obtain ⟨i, Lx, rfl, hi, HI, HH, HS⟩ := hrel
        by_cases hgo : i < n1 ∧ i < n2 ∧ i < 60
        · obtain ⟨g1, o1, x1, rfl, hx1, p1, p2⟩ := HK.out i hgo.1
          obtain ⟨g2, o2, x2, rfl, hx2, p3, p4⟩ := HY.out i hgo.2.1
          have hF := HH.out
          have hx1' := all_cell hF hx1
          have hx2' := all_cell hF hx2
          have lg1 := cell_lt hx1'
          have lg2 := cell_lt hx2'
          simp only at lg1 lg2
          obtain ⟨m1, hm1, e1⟩ := and3_u8 x1 p1 p2
          obtain ⟨m2, hm2, e2⟩ := and3_u8 x2 p3 p4
          obtain ⟨c, hc⟩ : ∃ c : Nat, 97 + m1 = c := ⟨_, rfl⟩
          have a1 : IntKind.u8.wrap (97 + (m1 : Int)) = (c : Int) := by rw [IntWalk.u8_in _ (by omega)]; omega
          have e9 : ((UInt8.ofNat (97 + m1)).toNat : Int) = (c : Int) := by rw [UInt8.toNat_ofNat']; omega
          have CV := one_convS wr (UInt8.ofNat (97 + m1))
          rw [e9] at CV
          have HA := ((HH.out.alloc (.cells #[.int .u8 (c : Int)] 5)).right).alloc (.cells #[.int .i64 1, .string (ks [UInt8.ofNat (97 + m1)])] 74)
          have nm := nam_cell HA
          have HA2 := HA.right
          have DC := Lib.hid (delT_calls tb gb 3 Lx 1 [UInt8.ofNat (97 + m1)] (by simp) (all w) _ HA2)
          have RC := Lib.hid (repT_calls tb gb 3 Lx 1 [UInt8.ofNat (97 + m1)] i ((i : Int) + 1) (by simp) (all w) _ HA2)
          have PC := Lib.hid (putT_calls tb gb 3 Lx 1 [UInt8.ofNat (97 + m1)] (100 + (i : Int)) (by simp) (all w) _ HA2)
          have ID := Lib.hid (inv_delR HI.out [UInt8.ofNat (97 + m1)])
          have IR := Lib.hid (inv_rep HI.out [UInt8.ofNat (97 + m1)] i ((i : Int) + 1))
          have IP := Lib.hid (inv_put HI.out 3 [UInt8.ofNat (97 + m1)] (100 + (i : Int)))
          obtain ⟨rd, hrd⟩ : ∃ q, delR Lx 1 [UInt8.ofNat (97 + m1)] = q := ⟨_, rfl⟩
          obtain ⟨rr, hrr⟩ : ∃ q, repR Lx 1 [UInt8.ofNat (97 + m1)] i ((i : Int) + 1) = q := ⟨_, rfl⟩
          obtain ⟨rp, hrp⟩ : ∃ q, putL Lx 3 1 [UInt8.ofNat (97 + m1)] (100 + (i : Int)) = q := ⟨_, rfl⟩
          rw [hrd] at DC ID
          rw [hrr] at RC IR
          rw [hrp] at PC IP
          obtain ⟨N, hN⟩ : ∃ q, ks [UInt8.ofNat (97 + m1)] = q := ⟨_, rfl⟩
          rw [hN] at DC RC PC CV nm
          obtain ⟨n0, n1'⟩ := nm
          have HS2 := Lib.hid ((HS.out.alloc (.cells #[.int .u8 (c : Int)] 5)).alloc (.cells #[.int .i64 1, .string N] 74))
          have t1 : decide ((i : Int) < (n1 : Int)) = true := decide_eq_true (by omega)
          have t2 : decide ((i : Int) < (n2 : Int)) = true := decide_eq_true (by omega)
          have t3 : decide ((i : Int) < 60) = true := decide_eq_true (by omega)
          have i0 : (0 : Int) ≤ (i : Int) := by omega
          have i1 : (i : Int) < (n1 : Int) := by omega
          have i2 : (i : Int) < (n2 : Int) := by omega
          have i3 : i < 60 := hgo.2.2
          have a3 : IntKind.i64.wrap ((i : Int) + 1) = (i : Int) + 1 := IntWalk.i64_in _ (by omega)
          have a4 : IntKind.i64.wrap (100 + (i : Int)) = 100 + (i : Int) := IntWalk.i64_in _ (by omega)
          clear hgo hF HH HS HA HA2 e9 hc hrd hrr hrp hN hx1 hx2 p1 p2 p3 p4 hm1 HI
          go_upto_block 4 with (fail)
          go_cut [] (fun wc => ∃ L2 : List En, Hid (InvT L2) ∧ Hid (Holds wc (TB tb gb 3 L2 * all w)) ∧ Hid (Sm w wc))
          case first =>
            by_cases q0 : m2 = 0
            · have u0 : ((m2 : Int) == 0) = true := by simp [q0]
              have u0' : (m2 == 0) = true := by simp [q0]
              clear q0 hm2
              go_wp2_with fail
              refine (DC.out).mono ?_
              rintro e w2 ⟨rfl, h2, s2⟩
              have H2 := Lib.hid h2
              have S2 := Lib.hid (HS2.out.trans s2)
              clear h2 s2 DC RC PC HS2
              go_wp2_with fail
              go_meet
              case rel => exact ⟨_, ID.out, H2.out, S2.out⟩
            · have u0 : ((m2 : Int) == 0) = false := beq_eq_false_iff_ne.2 (by omega)
              have u0' : (m2 == 0) = false := beq_eq_false_iff_ne.2 q0
              by_cases q1 : m2 = 1
              · have u1 : ((m2 : Int) == 1) = true := by simp [q1]
                have u1' : (m2 == 1) = true := by simp [q1]
                clear q0 q1 hm2
                go_wp2_with fail
                refine (RC.out).mono ?_
                rintro e w2 ⟨rfl, h2, s2⟩
                have H2 := Lib.hid h2
                have S2 := Lib.hid (HS2.out.trans s2)
                clear h2 s2 DC RC PC HS2
                go_wp2_with fail
                go_meet
                case rel => exact ⟨_, IR.out, H2.out, S2.out⟩
              · have u1 : ((m2 : Int) == 1) = false := beq_eq_false_iff_ne.2 (by omega)
                have u1' : (m2 == 1) = false := beq_eq_false_iff_ne.2 q1
                clear q0 q1 hm2
                go_wp2_with fail
                refine (PC.out).mono ?_
                rintro e w2 ⟨rfl, h2, s2⟩
                have H2 := Lib.hid h2
                have S2 := Lib.hid (HS2.out.trans s2)
                clear h2 s2 DC RC PC HS2
                go_wp2_with fail
                go_meet
                case rel => exact ⟨_, IP.out, H2.out, S2.out⟩
          case rest =>
            obtain ⟨L2, HI2, HH2, HSS⟩ := hcut
            clear DC RC PC ID IR IP n0 n1' hx1' hx2' CV e1 e2 HS2
            go_wp2_with fail
            go_loopw [10] (fun x10 wl => ∃ k : Nat, x10 = .int .i64 k ∧ k ≤ 4 ∧ Hid (Holds wl (TB tb gb 3 L2 * all w)) ∧ Hid (Sm w wl)) (fun x10 _ => 4 - (intOf x10).toNat)
            case atStart => exact ⟨0, rfl, by omega, HH2.out, HSS.out⟩
            case round =>
              clear HH2 HSS
              obtain ⟨k, rfl, hk4, HH, HS⟩ := hrel
              by_cases hk : k < 4
              · obtain ⟨c, hc⟩ : ∃ c : Nat, 97 + k = c := ⟨_, rfl⟩
                have b1 : IntKind.i64.wrap (97 + (k : Int)) = (c : Int) := by rw [IntWalk.i64_in _ (by omega)]; omega
                have e9 : ((UInt8.ofNat (97 + k)).toNat : Int) = (c : Int) := by rw [UInt8.toNat_ofNat']; omega
                have b2 : IntKind.u8.wrap (c : Int) = (c : Int) := IntWalk.u8_in _ (by omega)
                have b3 : (c : Int) % 256 = (c : Int) := by omega
                have CV := one_convS wr (UInt8.ofNat (97 + k))
                rw [e9] at CV
                have HA := (HH.out.alloc (.cells #[.int .u8 (c : Int)] 5)).right
                have GC := Lib.hid (getT_calls tb gb 3 L2 2 (kA k) (by simp [kA]) (all w) _ HA)
                rw [getL_mem (tb_nd HA) (HI2.out.mem k hk)] at GC
                unfold kA at GC
                obtain ⟨N2, hN2⟩ : ∃ q, ks [UInt8.ofNat (97 + k)] = q := ⟨_, rfl⟩
                rw [hN2] at GC CV
                have HA2 := Lib.hid HA
                have HS2 := Lib.hid (HS.out.alloc (.cells #[.int .u8 (c : Int)] 5))
                clear HA HH HS e9 hN2 hc
                go_wp2_with fail
                refine (GC.out).mono ?_
                rintro e w3 ⟨rfl, b9⟩
                have H3 := Lib.hid (HA2.out.grow b9)
                have S3 := Lib.hid (HS2.out.grow b9)
                clear b9 GC HA2 HS2
                go_wp2_with fail
                go_roundw
                case rel => exact ⟨k + 1, by go_num, by omega, H3.out, S3.out⟩
                case measure => simp [intOf]; omega
              · obtain rfl : k = 4 := by omega
                have SC := Lib.hid (scanT_calls tb gb 3 L2 2 [] (all w) wr HH.out)
                unfold ScanTC at SC
                rw [inv_two HI2.out, show ks [] = ⟨#[]⟩ from rfl] at SC
                have LEN := inv_len HI2.out
                have LB := len_bound HH.out
                obtain ⟨n9, hn9⟩ : ∃ q, (scanE L2 1 []).length = q := ⟨_, rfl⟩
                rw [hn9] at LEN
                have HN9 := Lib.hid hn9
                have b4 : IntKind.i64.wrap (4 + (n9 : Int)) = 4 + (n9 : Int) := IntWalk.i64_in _ (by omega)
                have HLEN := Lib.hid LEN
                clear hk hk4 HH hn9 LEN LB
                go_wp2_with fail
                refine (SC.out).mono ?_
                rintro e w3 ⟨ao, cap, S0, rfl, -, h3, s3⟩
                have h4 := h3.right
                have LC := Lib.hid (lenT_calls tb gb 3 L2 (all w) w3 h4)
                have SC2 := Lib.hid (scanT_calls tb gb 3 L2 1 [] (all w) w3 h4)
                unfold ScanTC at SC2
                rw [HN9.out, show ks [] = ⟨#[]⟩ from rfl] at SC2
                rw [HLEN.out] at LC
                have S3 := Lib.hid (HS.out.trans s3)
                clear h3 h4 s3 SC
                go_wp2_with fail
                refine (LC.out).mono ?_
                rintro e w4 ⟨rfl, rfl⟩
                go_wp2_with fail
                refine (SC2.out).mono ?_
                rintro e w5 ⟨ao2, cap2, S2, rfl, -, h5, s5⟩
                have H5 := Lib.hid h5.right
                have S5 := Lib.hid (S3.out.trans s5)
                clear h5 s5 SC2 LC
                go_wp2_with fail
                go_roundw
                case rel => exact ⟨i + 1, L2, by go_num, by omega, HI2.out, H5.out, S5.out⟩
                case measure => simp [intOf]; omega
        · have FIN := Lib.hid (Holds.below (A := _) HH.out HS.out)
          have LC := Lib.hid (lenT_calls tb gb 3 Lx (all w) wr HH.out)
          rw [inv_len HI.out] at LC
          obtain ⟨n9, hn9⟩ : ∃ q, (scanE Lx 1 []).length = q := ⟨_, rfl⟩
          rw [hn9] at LC
          have t9 : decide ((4 : Int) ≤ ((4 + n9 : Nat) : Int)) = true := decide_eq_true (by omega)
          have t9' : decide ((4 : Int) ≤ 4 + (n9 : Int)) = true := decide_eq_true (by omega)
          have t9'' : (4 : Int) ≤ 4 + (n9 : Int) := by omega
          clear hn9 HH HS HI
          by_cases g1 : i < n1
          · have t1 : decide ((i : Int) < (n1 : Int)) = true := decide_eq_true (by omega)
            by_cases g2 : i < n2
            · have t2 : decide ((i : Int) < (n2 : Int)) = true := decide_eq_true (by omega)
              have t3 : decide ((i : Int) < 60) = false := decide_eq_false (by omega)
              
              clear hgo hi
              go_wp2_with fail
              refine (LC.out).mono ?_
              rintro e w2 ⟨rfl, rfl⟩
              go_wp2_with fail
              go_ret
              exact ⟨rfl, FIN.out⟩
            · have t2 : decide ((i : Int) < (n2 : Int)) = false := decide_eq_false (by omega)
              
              clear hgo hi
              go_wp2_with fail
              refine (LC.out).mono ?_
              rintro e w2 ⟨rfl, rfl⟩
              go_wp2_with fail
              go_ret
              exact ⟨rfl, FIN.out⟩
          · have t1 : decide ((i : Int) < (n1 : Int)) = false := decide_eq_false (by omega)
            
            clear hgo hi
            go_wp2_with fail
            refine (LC.out).mono ?_
            rintro e w2 ⟨rfl, rfl⟩
            go_wp2_with fail
            go_ret
            exact ⟨rfl, FIN.out⟩
#print axioms tenants_walk
end Go.Proofs.Ytefcinifaaablaa.Stripe
