/-
  The document's arena (ref15): Alloc, New.
-/
import Derived.Test.YtefcinifaaablaaRef15d
import Derived.Test.YtefcinifaaablaaSlabOps
import Derived.Deep.RegionHeld3
namespace Go.Proofs.Ytefcinifaaablaa.Ref15
open Go.RowKit Go.Sep
open Go.Proofs.Ytefcinifaaablaa.Slab (szOf szN szN_val zeros clsFor)
set_option maxRecDepth 100000
set_option linter.unusedVariables false
set_option linter.unusedSimpArgs false

def freeI (L : List RBlk) (c : Int) (i : Nat) : Bool := match findI L c i with
  | none => true
  | some k => (L.getD k ⟨0, 0, 0, 0, none, []⟩).h == 0
def seekI (m : Nat) (L : List RBlk) (c : Int) : Option Nat := (List.range m).find? (freeI L c)
structure RTook where
  L : List RBlk
  c : Int
  i : Int
  g : Int
  e : Int
def nbk (c i : Int) : RBlk := ⟨c, i, 0, 0, none, []⟩
def tookB (b : RBlk) (loc sz : Nat) : RBlk := ⟨b.c, b.i, wrap64 (b.g + 1), 1, some loc, zeros sz⟩
def takeL (L : List RBlk) (k : Nat) (loc sz : Nat) : RTook :=
  let b := L.getD k ⟨0, 0, 0, 0, none, []⟩
  ⟨L.set k (tookB b loc sz), b.c, b.i, wrap64 (b.g + 1), 0⟩
def allocL (B : Nat → Int) (L : List RBlk) (n : Int) (loc : Nat) : RTook :=
  if n < 0 ∨ 4096 < n then ⟨L, 0, 0, 0, 2⟩ else
  let c := (clsFor n).toNat
  match seekI (B c).toNat L c with
  | none => ⟨L, 0, 0, 0, 14⟩
  | some i => match findI L c i with
    | none => takeL (L ++ [nbk c i]) L.length loc (szN c)
    | some k => takeL L k loc (szN c)
theorem seek_none {m : Nat} {L : List RBlk} {c : Int} (h : ∀ j, j < m → freeI L c j = false) : seekI m L c = none := by
  unfold seekI
  rw [List.find?_eq_none]
  intro j hj
  rw [h j (List.mem_range.1 hj)]; simp
theorem seek_some {m : Nat} {L : List RBlk} {c : Int} {i : Nat} (hi : i < m) (hf : freeI L c i = true) (h : ∀ j, j < i → freeI L c j = false) : seekI m L c = some i := by
  unfold seekI
  rw [List.find?_range_eq_some]
  refine ⟨hf, List.mem_range.2 hi, fun j hj => ?_⟩
  rw [h j hj]; simp
theorem find_is {L : List RBlk} {c i : Int} {k : Nat} (h : findI L c i = some k) : ∃ hk : k < L.length, L[k].c = c ∧ L[k].i = i := by
  obtain ⟨h1, h2, -⟩ := List.findIdx?_eq_some_iff_getElem.1 h
  simp at h2
  exact ⟨h1, h2.1, h2.2⟩
theorem cls_cases {n : Int} (h0 : 0 ≤ n) (h1 : n ≤ 4096) : ∃ c : Nat, clsFor n = c ∧ c < 4 ∧ (∀ j : Nat, j < c → szOf j < n) ∧ n ≤ szOf c := by
  unfold clsFor
  by_cases e0 : n ≤ 64
  · rw [if_pos e0]; exact ⟨0, rfl, by omega, fun j h => by omega, by simp [szOf]; omega⟩
  rw [if_neg e0]
  by_cases e1 : n ≤ 256
  · rw [if_pos e1]
    refine ⟨1, rfl, by omega, fun j h => ?_, by simp [szOf]; omega⟩
    obtain rfl : j = 0 := by omega
    simp [szOf]; omega
  rw [if_neg e1]
  by_cases e2 : n ≤ 1024
  · rw [if_pos e2]
    refine ⟨2, rfl, by omega, fun j h => ?_, by simp [szOf]; omega⟩
    have : j = 0 ∨ j = 1 := by omega
    rcases this with rfl | rfl <;> simp [szOf] <;> omega
  rw [if_neg e2, if_pos h1]
  refine ⟨3, rfl, by omega, fun j h => ?_, by simp [szOf]; omega⟩
  have : j = 0 ∨ j = 1 ∨ j = 2 := by omega
  rcases this with rfl | rfl | rfl <;> simp [szOf] <;> omega

theorem infoB : (Try.prog.info? 120).map (fun i => (i.zero, i.size, i.bytes)) = some (some (.agg #[.int .i64 0, .int .i64 0, .int .i64 0, .int .i64 0, .slice none 0 0]), 5, 56) := by kernel_rfl
theorem run_make_i (n : Nat) (hn : n ≤ 4096) (w : World) : (Instr.makeSlice 34 (.int .i64 n) (.int .i64 n)).run Try.prog w = .ok (.slice (some ⟨w.heap.size, 0, none⟩) n n) (w.alloc (.cells (Array.replicate n (.int .i64 0)) 3)) := by
  obtain ⟨i, hi, hz, hs, hb⟩ := info_parts infoI
  have h := run_make (P := Try.prog) w 34 3 i (.int .i64 0) Try.underlying34 hi hz .i64 .i64 n n (by omega) (by omega) (by rw [hb]; omega) (by omega)
  rw [h]
  simp only [Int.toNat_natCast, hs, Nat.mul_one, Result.ok.injEq, true_and]
  congr 2
  apply Array.ext'
  apply List.ext_getElem <;> simp [madeCells, Value.cells, Nat.mod_one]

/-- the document's arena, open: the slice is named -/
def opn (a : Nat) (B : Nat → Int) (V : Value) (L : List RBlk) (F : Asr) : Asr := hd a B V * (rowL 120 5 RBlk.enc V L * (big RBlk.own L * F))
theorem hd_cell {w : World} {a : Nat} {B : Nat → Int} {V : Value} {F : Asr} (h : Holds w (hd a B V * F)) (c : Nat) (hc : c < 4) : w.cell? ⟨a, c, none⟩ = some (.int .i64 (B c)) := by
  have := h.cell c
  rw [this]
  have : c = 0 ∨ c = 1 ∨ c = 2 ∨ c = 3 := by omega
  rcases this with rfl | rfl | rfl | rfl <;> rfl
structure OSeen (w : World) (a g k : Nat) (V : Value) (L : List RBlk) : Prop where
  lt : a < w.heap.size
  sl : w.cell? ⟨a, 4, none⟩ = some V
  glt : g < w.heap.size
  cell : ∀ (h : k < L.length) j, j < 5 → w.cell? ⟨g, k * 5 + j, none⟩ = (L[k].enc)[j]?
  fr : ∀ j, w.frozen? ⟨g, j, none⟩ = false
  afr : ∀ j, w.frozen? ⟨a, j, none⟩ = false
theorem opn_seen {w : World} {a g cap n : Nat} {B : Nat → Int} {L : List RBlk} {F : Asr} (h : Holds w (opn a B (.slice (some ⟨g, 0, none⟩) n cap) L F)) (k : Nat) (hk : k < L.length) : OSeen w a g k (.slice (some ⟨g, 0, none⟩) n cap) L := by
  unfold opn at h
  obtain ⟨g', cap', e, -, hg, hc, hf⟩ := rowL_cell (h.eqv (star_left_comm _ _ _)) enc_len k hk
  simp at e
  obtain ⟨rfl, -, -⟩ := e
  exact ⟨h.lt, h.cell 4, hg, fun _ => hc, hf, h.frozen⟩
theorem rowL_ne {T T' : TypeId} {α : Type _} {enc : α → List Value} {w : World} {a g cap n : Nat} {o : Obj} {L : List α} {sz : Nat} {F : Asr} (h : Holds w (pts a o * (rowL T sz enc (.slice (some ⟨g, 0, none⟩) n cap) L * F))) : a ≠ g := by
  obtain ⟨x, ⟨h1, h2, hd, rfl, e1, ⟨h3, h4, hd', rfl, ⟨-, e2⟩, -⟩⟩, -⟩ := h
  subst e1
  rcases e2 with ⟨q, -⟩ | ⟨g', cap', cur, q, -, -, -, -, e3⟩
  · simp at q
  · simp at q
    obtain ⟨rfl, -⟩ := q
    have e3 : h3 = fun k => if k = g then some (.cells cur T (0, 0)) else none := e3
    subst e3
    rintro rfl
    have := hd a
    simp at this
theorem opn_ne {w : World} {a g cap n : Nat} {B : Nat → Int} {L : List RBlk} {F : Asr} (h : Holds w (opn a B (.slice (some ⟨g, 0, none⟩) n cap) L F)) : ¬ a = g := rowL_ne (T' := 0) h
theorem opn_set {w : World} {a g cap n : Nat} {B : Nat → Int} {L : List RBlk} {F : Asr} (h : Holds w (opn a B (.slice (some ⟨g, 0, none⟩) n cap) L F)) (hn : L.length = n) (k j : Nat) (hk : k < L.length) (hj : j < 5) (v : Value) (b : RBlk) (he : b.enc = (L[k].enc).set j v) (ho : b.own = L[k].own) :
    Holds (w.setCell ⟨g, k * 5 + j, none⟩ v) (opn a B (.slice (some ⟨g, 0, none⟩) n cap) (L.set k b) F) := by
  subst hn
  unfold opn at h ⊢
  have h1 := rowL_store1 (h.eqv (star_left_comm _ _ _)) enc_len k j hk hj v b he
  refine h1.eqv ?_
  rw [big_set _ _ _ _ hk, ho, ← big_at _ _ _ hk]
  ac_rfl
theorem opn_fresh {w : World} {a g cap n : Nat} {B : Nat → Int} {L : List RBlk} {F : Asr} (h : Holds w (opn a B (.slice (some ⟨g, 0, none⟩) n cap) L F)) (hn : L.length = n) (k sz : Nat) (hk : k < L.length) :
    Holds ((w.setCell ⟨g, k * 5 + 4, none⟩ (.slice (some ⟨w.heap.size, 0, none⟩) sz sz)).alloc (.cells (Array.replicate sz (.int .i64 0)) 3)) (opn a B (.slice (some ⟨g, 0, none⟩) n cap) (L.set k { L[k] with loc := some w.heap.size, bytes := zeros sz }) F) := by
  subst hn
  unfold opn at h ⊢
  have h1 := rowL_store1 (h.eqv (star_left_comm _ _ _)) enc_len k 4 hk (by omega) (.slice (some ⟨w.heap.size, 0, none⟩) sz sz) { L[k] with loc := some w.heap.size, bytes := zeros sz } (by simp [RBlk.enc, RBlk.sl, zeros])
  have h2 := h1.alloc (.cells (Array.replicate sz (.int .i64 0)) 3)
  simp only [World.size_setCell] at h2
  rw [big_at _ _ _ hk] at h2
  have h3 := (h2.eqv (by ac_rfl : _ = L[k].own * (pts w.heap.size (.cells (Array.replicate sz (.int .i64 0)) 3) * (hd a B (.slice (some ⟨g, 0, none⟩) L.length cap) * (rowL 120 5 RBlk.enc (.slice (some ⟨g, 0, none⟩) L.length cap) (L.set k { L[k] with loc := some w.heap.size, bytes := zeros sz }) * (big RBlk.own (L.eraseIdx k) * F)))))).right
  refine h3.eqv ?_
  rw [big_set _ _ _ _ hk]
  have e : RBlk.own { L[k] with loc := some w.heap.size, bytes := zeros sz } = pts w.heap.size (.cells (Array.replicate sz (.int .i64 0)) 3) := by
    simp [RBlk.own, zeros]
  rw [e]
  ac_rfl

def RAllocC (a : Nat) (B : Nat → Int) (L : List RBlk) (n : Int) (F : Asr) (w : World) (e : Ending) (w' : World) : Prop :=
  ∃ loc, e = .returned (.tuple #[.int .i64 (allocL B L n loc).c, .int .i64 (allocL B L n loc).i, .int .i64 (allocL B L n loc).g, .int .i64 (allocL B L n loc).e]) ∧ Holds w' (refA a B (allocL B L n loc).L * F) ∧ Sm w w'
set_option maxHeartbeats 8000000 in
theorem ralloc_calls (a : Nat) (B : Nat → Int) (L : List RBlk) (n : Int) (F : Asr) (w : World) (hB : ∀ c, c < 4 → 0 ≤ B c ∧ B c ≤ 4096) (hL : L.length ≤ 100000) (hw : Holds w (refA a B L * F)) :
    Calls Try.prog 74 #[.pointer (some ⟨a, 0, none⟩), .int .i64 n] w (RAllocC a B L n F w) := by
  have HW := Lib.hid hw
  by_cases hn0 : n < 0
  · have R : Hid (allocL B L n 0 = ⟨L, 0, 0, 0, 2⟩) := by show _ = _; unfold allocL; rw [if_pos (.inl hn0)]
    have d0 : decide (n < 0) = true := by simpa using hn0
    clear hw hn0 hB hL
    go_enter Try.func74, Try.ntmps74
    go_wp2_with fail
    exact bodyPost_ret (v := .tuple #[.int .i64 0, .int .i64 0, .int .i64 0, .int .i64 2]) (by simp [results, Try.results74, go_sem]) rfl ⟨0, by rw [R.out], by rw [R.out]; exact HW.out, Sm.refl _⟩
  have d0 : decide (n < 0) = false := by simpa using hn0
  by_cases hn1 : 4096 < n
  · have R : Hid (allocL B L n 0 = ⟨L, 0, 0, 0, 2⟩) := by show _ = _; unfold allocL; rw [if_pos (.inr hn1)]
    have d1 : decide (4096 < n) = true := by simpa using hn1
    clear hw hn0 hn1 hB hL
    go_enter Try.func74, Try.ntmps74
    go_wp2_with fail
    exact bodyPost_ret (v := .tuple #[.int .i64 0, .int .i64 0, .int .i64 0, .int .i64 2]) (by simp [results, Try.results74, go_sem]) rfl ⟨0, by rw [R.out], by rw [R.out]; exact HW.out, Sm.refl _⟩
  have d1 : decide (4096 < n) = false := by simpa using hn1
  obtain ⟨c, hc, hc4, hlo, hhi⟩ := cls_cases (n := n) (by omega) (by omega)
  obtain ⟨hb0, hb1⟩ := hB c hc4
  obtain ⟨m, hm⟩ := Int.eq_ofNat_of_zero_le hb0
  have R : Hid (∀ loc, allocL B L n loc = match seekI m L c with
      | none => ⟨L, 0, 0, 0, 14⟩
      | some i => match findI L c i with
        | none => takeL (L ++ [nbk c i]) L.length loc (szN c)
        | some k => takeL L k loc (szN c)) := by
    intro loc
    unfold allocL
    rw [if_neg (by omega)]
    simp only [hc, Int.toNat_natCast, hm]
  obtain ⟨hs1, -, hs2⟩ := szN_val c hc4
  have SZ := Lib.hid (fun (k : Int) w => sizes_calls k w)
  have SZC : Hid (∀ w, Calls Try.prog 53 #[.int .i64 c] w fun e w' => e = .returned (.int .i64 (szN c : Nat)) ∧ Below w.heap.size w w') := by
    intro w; have := sizes_calls c w; rw [hs1] at this; exact this
  obtain ⟨sz, hsz⟩ : ∃ q, szN c = q := ⟨_, rfl⟩
  rw [hsz] at SZC hs2 R
  have hmk := run_make_i sz hs2
  have LO := Lib.hid hlo
  have HI := Lib.hid hhi
  have HM := Lib.hid hm
  have m4 : m ≤ 4096 := by omega
  have g7 : (0 : Int) ≤ (c : Int) := by omega
  have g8 : (c : Int) < 4 := by omega
  have CC := Lib.hid hc4
  have HLL := Lib.hid hL
  clear hw hn0 hn1 hB hL hlo hhi hb0 hb1 hc hs1 hsz hm hc4
  go_enter Try.func74, Try.ntmps74
  go_wp2_with fail
  go_loopw [8] (fun x wr => ∃ j : Nat, j ≤ c ∧ x = .int .i64 j ∧ Hid (Holds wr (refA a B L * F)) ∧ Hid (Sm w wr)) (fun x _ => c - (intOf x).toNat)
  case atStart => exact ⟨0, Nat.zero_le _, rfl, HW.out, Sm.refl w⟩
  case round =>
    clear HW
    obtain ⟨j, hj, rfl, HH, HS⟩ := hrel
    obtain ⟨s, hs⟩ : ∃ q, szOf j = q := ⟨_, rfl⟩
    have SJ := Lib.hid (hs ▸ SZ.out j)
    by_cases hlt : j < c
    · have d2 : decide (s < n) = true := by rw [← hs]; simpa using LO.out j hlt
      clear hs
      go_wp2_with fail
      refine (SJ.out _).mono ?_
      rintro e w1 ⟨rfl, hb⟩
      have H1 := Lib.hid (HH.out.grow hb)
      have S1 : Hid (Sm w w1) := HS.out.grow hb
      clear hb SJ
      go_wp2_with fail
      go_roundw
      case rel => exact ⟨j + 1, by omega, by go_num, H1.out, S1.out⟩
      case measure => simp [intOf]; omega
    · obtain rfl : c = j := by omega
      have d2 : decide (s < n) = false := by rw [← hs]; have := HI.out; simpa using this
      clear hs hlt hj
      go_wp2_with fail
      refine (SJ.out _).mono ?_
      rintro e w1 ⟨rfl, hb⟩
      have H1 := Lib.hid (HH.out.grow hb)
      have S1 : Hid (Sm w w1) := HS.out.grow hb
      clear hb SJ HH HS
      go_wp2_with fail
      go_loopw [9] (fun x wq => ∃ i : Nat, i ≤ m ∧ x = .int .i64 i ∧ Hid (∀ j, j < i → freeI L c j = false) ∧ Hid (Holds wq (refA a B L * F)) ∧ Hid (Sm w wq)) (fun x _ => m - (intOf x).toNat)
      case atStart => exact ⟨0, Nat.zero_le _, rfl, fun j h => by omega, H1.out, S1.out⟩
      case round =>
        clear H1 S1
        obtain ⟨i, hi, rfl, NO, HH, HS⟩ := hrel
        obtain ⟨V, ao, cap, SN, hopn⟩ := ref_seen HH.out
        obtain rfl := SN.is
        have al := SN.lt
        have a4 := SN.sl
        have aB := hd_cell hopn c CC.out
        rw [HM.out] at aB
        have FD := Lib.hid (findL_eq L c i ▸ find_calls a B L F c i _ HH.out)
        by_cases him : i < m
        · have d3 : decide ((i : Int) < (m : Int)) = true := by simp; omega
          cases hf : findI L c i with
          | none =>
            have FR : freeI L c i = true := by simp [freeI, hf]
            have RR : Hid (∀ loc, allocL B L n loc = takeL (L ++ [nbk c i]) L.length loc sz) := by
              intro loc; rw [R.out loc, seek_some him FR NO.out]; simp only [hf]
            rw [hf] at FD
            simp only [toI] at FD
            obtain ⟨l, hl⟩ : ∃ q, L.length = q := ⟨_, rfl⟩
            have HL := Lib.hid hl
            have hl9 : l ≤ 100000 := by rw [← hl]; exact HLL.out
            have HA := Lib.hid ((hopn.alloc (.cells #[.int .i64 c, .int .i64 i, .int .i64 0, .int .i64 0, .slice none 0 0] 120)).right.eqv (star_left_comm _ _ _))
            rw [hl] at a4 HA RR
            clear hf FR SN hopn R hl SZ NO
            go_wp2_with fail
            refine (FD.out).mono ?_
            rintro e w' ⟨rfl, rfl⟩
            go_wp2_with (at_builtin; refine wpList_append_one (enc := RBlk.enc) rfl _ _ 112 rfl 120 (.agg #[.int .i64 0, .int .i64 0, .int .i64 0, .int .i64 0, .slice none 0 0]) 5 56 Try.underlying112 infoB rfl (nbk c i) rfl HA.out ⟨wr.heap.size, 0, none⟩ 1 rfl rfl (cells_new wr #[.int .i64 c, .int .i64 i, .int .i64 0, .int .i64 0, .slice none 0 0] 120 _ rfl) (by simp [nbk, RBlk.enc, RBlk.sl, Value.oneCell']) (by rw [HL.out]; unfold maxLen; omega) (by rw [HL.out]; omega) ?_)
            intro v' w2 h2 s2
            have lq : (L ++ [nbk c i]).length = l + 1 := by simp [HL.out]
            obtain ⟨g, cap2, hv', -, -, -, -⟩ := rowL_cell h2 enc_len l (by omega)
            rw [lq] at hv'
            subst hv'
            have h3 := h2.eqv (star_left_comm _ _ _)
            have y4 := h3.cell 4
            have yl := h3.lt
            have yf := h3.frozen 4
            simp at y4
            have h4 := Holds.store h3 4 (.slice (some ⟨g, 0, none⟩) (l + 1) cap2)
            obtain ⟨K, hK⟩ : ∃ q, L ++ [nbk c i] = q := ⟨_, rfl⟩
            have H5 : Hid (Holds (w2.setCell ⟨a, 4, none⟩ (.slice (some ⟨g, 0, none⟩) (l + 1) cap2)) (opn a B (.slice (some ⟨g, 0, none⟩) (l + 1) cap2) K F)) := by
              show Holds _ _
              refine h4.eqv ?_
              unfold opn hd
              rw [← hK, big_append, big_cons, big_nil]
              have : (nbk c i).own = emp := rfl
              rw [this, star_emp, star_emp]
              rfl
            have S5 : Hid (Sm w (w2.setCell ⟨a, 4, none⟩ (.slice (some ⟨g, 0, none⟩) (l + 1) cap2))) := ((HS.out.alloc _).trans s2).setCell _ _
            have KL : Hid (K.length = l + 1) := by show _ = _; rw [← hK]; exact lq
            have KG : Hid (K.getD l ⟨0, 0, 0, 0, none, []⟩ = nbk c i) := by show _ = _; rw [← hK]; simp [List.getD, HL.out.symm]
            rw [hK] at RR
            have bw : IntKind.i64.wrap (((l + 1 : Nat) : Int) - 1) = (l : Int) := by rw [IntWalk.i64_in _ (by omega)]; omega
            have bw2 : IntKind.i64.wrap ((l : Int) + 1 - 1) = (l : Int) := by rw [IntWalk.i64_in _ (by omega)]; omega
            rw [hK] at h2
            have kl : l < K.length := by rw [KL.out]; omega
            have KE : K[l] = nbk c i := by have := KG.out; simpa [List.getD, kl] using this
            obtain ⟨g', cap', eg', -, glt, ycc, ygf⟩ := rowL_cell h2 enc_len l kl
            simp at eg'
            obtain ⟨rfl, -⟩ := eg'
            have y3 := ycc 3 (by omega)
            have y2 := ycc 2 (by omega)
            have y4g := ycc 4 (by omega)
            simp only [RBlk.enc, List.getElem?_cons_zero, List.getElem?_cons_succ] at y3 y2 y4g
            have yf2 := ygf (l * 5 + 2)
            have yf3 := ygf (l * 5 + 3)
            have yf4 := ygf (l * 5 + 4)
            have hag : ¬ a = g := (opn_ne H5.out)
            have hga : ¬ g = a := fun e => hag e.symm
            clear h2 h3 h4 s2 HA HS HH lq hK FD a4 al aB ycc ygf
            have e0 : (0 : Int) ≤ (l : Int) := by omega
            have e1 : (l : Int) < ((l + 1 : Nat) : Int) := by omega
            have e2 : (l : Int) < (l : Int) + 1 := by omega
            have KLT : l < K.length := kl
            have KN : Hid (K.length = l + 1) := KL.out
            have KCI : Hid ((K[l]'KLT).c = c ∧ (K[l]'KLT).i = i) := by show _ ∧ _; rw [KE]; exact ⟨rfl, rfl⟩
            have y3' : (K[l]'KLT).h = 0 := by rw [KE]; rfl
            rw [y3'] at y3
            clear KE y3' KG
            obtain ⟨b, hb⟩ : ∃ q, K[l]'KLT = q := ⟨_, rfl⟩
            have GB : Hid (K.getD l ⟨0, 0, 0, 0, none, []⟩ = b) := by show _ = _; rw [← hb]; simp [List.getD, KLT]
            have H6 : Hid (Holds ((w2.setCell ⟨a, 4, none⟩ (.slice (some ⟨g, 0, none⟩) (l + 1) cap2)).setCell ⟨g, l * 5 + 2, none⟩ (.int .i64 (wrap64 (b.g + 1)))) (opn a B (.slice (some ⟨g, 0, none⟩) (l + 1) cap2) (K.set l { b with g := wrap64 (b.g + 1) }) F)) :=
              opn_set H5.out KN.out l 2 KLT (by omega) _ _ (by rw [hb]; rfl) (by rw [hb]; rfl)
            have kl1 : l < (K.set l { b with g := wrap64 (b.g + 1) }).length := by rw [List.length_set]; exact KLT
            have H7 : Hid (Holds (((w2.setCell ⟨a, 4, none⟩ (.slice (some ⟨g, 0, none⟩) (l + 1) cap2)).setCell ⟨g, l * 5 + 2, none⟩ (.int .i64 (wrap64 (b.g + 1)))).setCell ⟨g, l * 5 + 3, none⟩ (.int .i64 1)) (opn a B (.slice (some ⟨g, 0, none⟩) (l + 1) cap2) (K.set l { b with g := wrap64 (b.g + 1), h := 1 }) F)) := by
              have := opn_set H6.out (by rw [List.length_set]; exact KN.out) l 3 kl1 (by omega) (.int .i64 1) { b with g := wrap64 (b.g + 1), h := 1 } (by rw [List.getElem_set_self]; rfl) (by rw [List.getElem_set_self]; rfl)
              rw [List.set_set] at this
              exact this
            have kl2 : l < (K.set l { b with g := wrap64 (b.g + 1), h := 1 }).length := by rw [List.length_set]; exact KLT
            obtain ⟨gg, hgg⟩ : ∃ q, b.g = q := ⟨_, rfl⟩
            have HGG := Lib.hid hgg
            have CEE : Hid (b.c = (c : Int) ∧ b.i = (i : Int)) := by
              show _ ∧ _
              rw [← hb]; exact KCI.out
            have HB := Lib.hid hb
            rw [hb] at y2
            obtain ⟨sv, hsv⟩ : ∃ q, RBlk.sl (K[l]'KLT) = q := ⟨_, rfl⟩
            rw [hsv] at y4g
            clear hsv
            rw [hgg] at y2 H7 kl2
            clear hb hgg H6 kl1
            go_wp2_with fail
            have x2a := (opn_seen H7.out l kl2).sl
            go_region_held3 (fun w' => w'.cell? ⟨a, 4, none⟩ = some (.slice (some ⟨g, 0, none⟩) (l + 1) cap2)) (first | exact x6a | exact x5a | exact x2a | go_keep)
              (first | (go_at_call 53; refine (SZC.out _).mono ?_; rintro e w5 ⟨rfl, hb5⟩; have h8 := (Holds.drew H7.out).grow hb5; have x5a := (opn_seen h8 l kl2).sl; have x5l := (opn_seen h8 l kl2).lt; have x5g := (opn_seen h8 l kl2).glt; have x5f := (opn_seen h8 l kl2).fr (l * 5 + 4); have x5c := (opn_seen h8 l kl2).cell kl2 4 (by omega); rw [List.getElem_set_self] at x5c; simp only [RBlk.enc, List.getElem?_cons_zero, List.getElem?_cons_succ] at x5c; have h9 := opn_fresh h8 (by rw [List.length_set]; exact KN.out) l sz kl2; have x6a := (opn_seen h9 l (by rw [List.length_set]; exact kl2)).sl; have H9 := Lib.hid h9; have HB5 := Lib.hid hb5; clear h8 h9 hb5))
            have TK : Hid (∀ loc, takeL K l loc sz = ⟨K.set l (tookB b loc sz), (c : Int), (i : Int), wrap64 (gg + 1), 0⟩) := by
              intro loc; unfold takeL; simp only [GB.out, HGG.out, CEE.out.1, CEE.out.2]
            have H10 : Hid (Holds ((w5.setCell ⟨g, l * 5 + 4, none⟩ (.slice (some ⟨w5.heap.size, 0, none⟩) sz sz)).alloc (.cells (Array.replicate sz (.int .i64 0)) 3)) (opn a B (.slice (some ⟨g, 0, none⟩) (l + 1) cap2) (K.set l (tookB b w5.heap.size sz)) F)) := by
              have h := H9.out
              rw [List.set_set] at h
              refine h.eqv ?_
              congr 2
              rw [List.getElem_set_self]
              simp [tookB, HGG.out]
            have S10 : Hid (Sm w w5) := ((S5.out.setCell ⟨g, l * 5 + 2, none⟩ (.int .i64 (wrap64 (gg + 1)))).setCell ⟨g, l * 5 + 3, none⟩ (.int .i64 1)).drew.grow HB5.out
            have kl3 : l < (K.set l (tookB b w5.heap.size sz)).length := by rw [List.length_set]; exact KLT
            have x6 := opn_seen H10.out l kl3
            have x6c := x6.cell kl3 2 (by omega)
            rw [List.getElem_set_self] at x6c
            simp only [tookB, RBlk.enc, List.getElem?_cons_zero, List.getElem?_cons_succ, HGG.out] at x6c
            have x6l := x6.lt
            have x6g := x6.glt
            have RF : Hid (Holds ((w5.setCell ⟨g, l * 5 + 4, none⟩ (.slice (some ⟨w5.heap.size, 0, none⟩) sz sz)).alloc (.cells (Array.replicate sz (.int .i64 0)) 3)) (refA a B (K.set l (tookB b w5.heap.size sz)) * F)) := ref_shut (v := .slice (some ⟨g, 0, none⟩) (l + 1) cap2) H10.out
            obtain ⟨W6, hW6⟩ : ∃ q, (w5.setCell ⟨g, l * 5 + 4, none⟩ (.slice (some ⟨w5.heap.size, 0, none⟩) sz sz)).alloc (.cells (Array.replicate sz (.int .i64 0)) 3) = q := ⟨_, rfl⟩
            have S11 : Hid (Sm w W6) := by show Sm _ _; rw [← hW6]; exact (S10.out.setCell _ _).alloc _
            rw [hW6] at x6a x6c x6l x6g RF ⊢
            clear hW6 x6 H9 H10 S10 S5 HB5 x2a x5a x5l x5g x5f x5c H7 y3 y2 y4g yf2 yf3 yf4
            obtain ⟨W5, hW5⟩ : ∃ q, w5.heap.size = q := ⟨_, rfl⟩
            rw [hW5] at RF
            go_wp2_with fail
            go_quiet (fail)
            go_wp2_with fail
            exact bodyPost_ret (v := .tuple #[.int .i64 c, .int .i64 i, .int .i64 (wrap64 (gg + 1)), .int .i64 0]) (by simp [results, Try.results74, go_sem]) rfl ⟨W5, by rw [RR.out, TK.out], by rw [RR.out, TK.out]; exact RF.out, S11.out.drewN _⟩
          | some k =>
            have hk := findI_lt hf
            have eg : L.getD k ⟨0, 0, 0, 0, none, []⟩ = L[k] := by simp [List.getD, hk]
            obtain ⟨g, rfl, hg, hcell⟩ := SN.cell k hk
            have k3 := hcell 3 (by omega)
            simp only [RBlk.enc, List.getElem?_cons_zero, List.getElem?_cons_succ] at k3
            rw [hf] at FD
            simp only [toI] at FD
            have dk : decide ((k : Int) < 0) = false := by simp
            have e0 : (0 : Int) ≤ (k : Int) := by omega
            have e1 : (k : Int) < (L.length : Int) := by omega
            by_cases hh : L[k].h = 0
            · have FR : freeI L c i = true := by unfold freeI; rw [hf]; simp only [eg, hh]; rfl
              have RR : Hid (∀ loc, allocL B L n loc = takeL L k loc sz) := by
                intro loc; rw [R.out loc, seek_some him FR NO.out]; simp only [hf]
              obtain ⟨fi, hfi⟩ : ∃ q : Nat, (i : Int) = q := ⟨i, rfl⟩
              have KLT : k < L.length := hk
              obtain ⟨hkk, fe1, fe2⟩ := find_is hf
              have KCI : Hid ((L[k]'KLT).c = c ∧ (L[k]'KLT).i = i) := ⟨fe1, fe2⟩
              obtain ⟨l, hl⟩ : ∃ q, L.length = q := ⟨_, rfl⟩
              have KN : Hid (L.length = l) := hl
              have H5 : Hid (Holds wr (opn a B (.slice (some ⟨g, 0, none⟩) l cap) L F)) := by show Holds _ _; rw [← hl]; exact hopn
              have S5 := Lib.hid HS.out
              have y3 := hcell 3 (by omega)
              have y2 := hcell 2 (by omega)
              have y4g := hcell 4 (by omega)
              simp only [RBlk.enc, List.getElem?_cons_zero, List.getElem?_cons_succ] at y3 y2 y4g
              rw [hh] at y3
              have xs := opn_seen H5.out k KLT
              have yf2 := xs.fr (k * 5 + 2)
              have yf3 := xs.fr (k * 5 + 3)
              have yf4 := xs.fr (k * 5 + 4)
              have hag : ¬ a = g := (opn_ne H5.out)
              have hga : ¬ g = a := fun e => hag e.symm
              rw [hl] at a4 e1
              clear hf FR SN hopn R hl SZ NO hcell hh eg xs hkk fe1 fe2 k3 hfi HH HS
              go_wp2_with fail
              refine (FD.out).mono ?_
              rintro e w' ⟨rfl, rfl⟩
              obtain ⟨b, hb⟩ : ∃ q, L[k]'KLT = q := ⟨_, rfl⟩
              have GB : Hid (L.getD k ⟨0, 0, 0, 0, none, []⟩ = b) := by show _ = _; rw [← hb]; simp [List.getD, KLT]
              have H6 : Hid (Holds (wr.setCell ⟨g, k * 5 + 2, none⟩ (.int .i64 (wrap64 (b.g + 1)))) (opn a B (.slice (some ⟨g, 0, none⟩) l cap) (L.set k { b with g := wrap64 (b.g + 1) }) F)) :=
                opn_set H5.out KN.out k 2 KLT (by omega) _ _ (by rw [hb]; rfl) (by rw [hb]; rfl)
              have kl1 : k < (L.set k { b with g := wrap64 (b.g + 1) }).length := by rw [List.length_set]; exact KLT
              have H7 : Hid (Holds ((wr.setCell ⟨g, k * 5 + 2, none⟩ (.int .i64 (wrap64 (b.g + 1)))).setCell ⟨g, k * 5 + 3, none⟩ (.int .i64 1)) (opn a B (.slice (some ⟨g, 0, none⟩) l cap) (L.set k { b with g := wrap64 (b.g + 1), h := 1 }) F)) := by
                have := opn_set H6.out (by rw [List.length_set]; exact KN.out) k 3 kl1 (by omega) (.int .i64 1) { b with g := wrap64 (b.g + 1), h := 1 } (by rw [List.getElem_set_self]; rfl) (by rw [List.getElem_set_self]; rfl)
                rw [List.set_set] at this
                exact this
              have kl2 : k < (L.set k { b with g := wrap64 (b.g + 1), h := 1 }).length := by rw [List.length_set]; exact KLT
              obtain ⟨gg, hgg⟩ : ∃ q, b.g = q := ⟨_, rfl⟩
              have HGG := Lib.hid hgg
              have CEE : Hid (b.c = (c : Int) ∧ b.i = (i : Int)) := by
                show _ ∧ _
                rw [← hb]; exact KCI.out
              have HB := Lib.hid hb
              rw [hb] at y2
              obtain ⟨sv, hsv⟩ : ∃ q, RBlk.sl (L[k]'KLT) = q := ⟨_, rfl⟩
              rw [hsv] at y4g
              clear hsv
              rw [hgg] at y2 H7 kl2
              clear hb hgg H6 kl1
              go_wp2_with fail
              have x2a := (opn_seen H7.out k kl2).sl
              go_region_held3 (fun w' => w'.cell? ⟨a, 4, none⟩ = some (.slice (some ⟨g, 0, none⟩) l cap)) (first | exact x6a | exact x5a | exact x2a | go_keep)
                (first | (go_at_call 53; refine (SZC.out _).mono ?_; rintro e w5 ⟨rfl, hb5⟩; have h8 := (Holds.drew H7.out).grow hb5; have x5a := (opn_seen h8 k kl2).sl; have x5l := (opn_seen h8 k kl2).lt; have x5g := (opn_seen h8 k kl2).glt; have x5f := (opn_seen h8 k kl2).fr (k * 5 + 4); have x5c := (opn_seen h8 k kl2).cell kl2 4 (by omega); rw [List.getElem_set_self] at x5c; simp only [RBlk.enc, List.getElem?_cons_zero, List.getElem?_cons_succ] at x5c; have h9 := opn_fresh h8 (by rw [List.length_set]; exact KN.out) k sz kl2; have x6a := (opn_seen h9 k (by rw [List.length_set]; exact kl2)).sl; have H9 := Lib.hid h9; have HB5 := Lib.hid hb5; clear h8 h9 hb5))
              have TK : Hid (∀ loc, takeL L k loc sz = ⟨L.set k (tookB b loc sz), (c : Int), (i : Int), wrap64 (gg + 1), 0⟩) := by
                intro loc; unfold takeL; simp only [GB.out, HGG.out, CEE.out.1, CEE.out.2]
              have H10 : Hid (Holds ((w5.setCell ⟨g, k * 5 + 4, none⟩ (.slice (some ⟨w5.heap.size, 0, none⟩) sz sz)).alloc (.cells (Array.replicate sz (.int .i64 0)) 3)) (opn a B (.slice (some ⟨g, 0, none⟩) l cap) (L.set k (tookB b w5.heap.size sz)) F)) := by
                have h := H9.out
                rw [List.set_set] at h
                refine h.eqv ?_
                congr 2
                rw [List.getElem_set_self]
                simp [tookB, HGG.out]
              have S10 : Hid (Sm w w5) := ((S5.out.setCell ⟨g, k * 5 + 2, none⟩ (.int .i64 (wrap64 (gg + 1)))).setCell ⟨g, k * 5 + 3, none⟩ (.int .i64 1)).drew.grow HB5.out
              have kl3 : k < (L.set k (tookB b w5.heap.size sz)).length := by rw [List.length_set]; exact KLT
              have x6 := opn_seen H10.out k kl3
              have x6c := x6.cell kl3 2 (by omega)
              rw [List.getElem_set_self] at x6c
              simp only [tookB, RBlk.enc, List.getElem?_cons_zero, List.getElem?_cons_succ, HGG.out] at x6c
              have x6l := x6.lt
              have x6g := x6.glt
              have RF : Hid (Holds ((w5.setCell ⟨g, k * 5 + 4, none⟩ (.slice (some ⟨w5.heap.size, 0, none⟩) sz sz)).alloc (.cells (Array.replicate sz (.int .i64 0)) 3)) (refA a B (L.set k (tookB b w5.heap.size sz)) * F)) := ref_shut (v := .slice (some ⟨g, 0, none⟩) l cap) H10.out
              obtain ⟨W6, hW6⟩ : ∃ q, (w5.setCell ⟨g, k * 5 + 4, none⟩ (.slice (some ⟨w5.heap.size, 0, none⟩) sz sz)).alloc (.cells (Array.replicate sz (.int .i64 0)) 3) = q := ⟨_, rfl⟩
              have S11 : Hid (Sm w W6) := by show Sm _ _; rw [← hW6]; exact (S10.out.setCell _ _).alloc _
              rw [hW6] at x6a x6c x6l x6g RF ⊢
              clear hW6 x6 H9 H10 S10 S5 HB5 x2a x5a x5l x5g x5f x5c H7 y3 y2 y4g yf2 yf3 yf4
              obtain ⟨W5, hW5⟩ : ∃ q, w5.heap.size = q := ⟨_, rfl⟩
              rw [hW5] at RF
              go_wp2_with fail
              go_quiet (fail)
              go_wp2_with fail
              exact bodyPost_ret (v := .tuple #[.int .i64 c, .int .i64 i, .int .i64 (wrap64 (gg + 1)), .int .i64 0]) (by simp [results, Try.results74, go_sem]) rfl ⟨W5, by rw [RR.out, TK.out], by rw [RR.out, TK.out]; exact RF.out, S11.out.drewN _⟩
            · have FR : freeI L c i = false := by unfold freeI; rw [hf]; simp only [eg]; simpa using hh
              have d5 : (L[k].h == 0) = false := by simpa using hh
              have NO' : Hid (∀ j, j < i + 1 → freeI L c j = false) := by
                intro j h
                by_cases e : j = i
                · subst e; exact FR
                · exact NO.out j (by omega)
              obtain ⟨hv, hhv⟩ : ∃ q, L[k].h = q := ⟨_, rfl⟩
              rw [hhv] at k3 d5
              obtain ⟨l, hl⟩ : ∃ q, L.length = q := ⟨_, rfl⟩
              rw [hl] at a4 e1
              clear hf FR SN hopn R hl SZ NO hcell hhv hh eg hk
              go_wp2_with fail
              refine (FD.out).mono ?_
              rintro e w' ⟨rfl, rfl⟩
              go_wp2_with fail
              go_roundw
              case rel => exact ⟨i + 1, by omega, by go_num, NO'.out, HH.out, HS.out⟩
              case measure => simp [intOf]; omega
        · obtain rfl : m = i := by omega
          have RR : Hid (∀ loc, allocL B L n loc = ⟨L, 0, 0, 0, 14⟩) := by
            intro loc; rw [R.out loc, seek_none NO.out]
          have d3 : decide ((m : Int) < (m : Int)) = false := by simp
          clear SN hopn R SZ NO
          go_wp2_with fail
          exact bodyPost_ret (v := .tuple #[.int .i64 0, .int .i64 0, .int .i64 0, .int .i64 14]) (by simp [results, Try.results74, go_sem]) rfl ⟨0, by rw [RR.out], by rw [RR.out]; exact HH.out, HS.out⟩
#print axioms ralloc_calls
end Go.Proofs.Ytefcinifaaablaa.Ref15
