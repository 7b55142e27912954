/-
  The document's arena (ref15): Read.
-/
import Derived.Test.YtmaoboepmbioiaaRef15b
namespace Go.Proofs.Ytmaoboepmbioiaa.Ref15
open Go.RowKit Go.Sep
open Go.Proofs.Ytmaoboepmbioiaa.Slab (szOf)
set_option maxRecDepth 100000
set_option linter.unusedVariables false
set_option linter.unusedSimpArgs false

def OkL (L : List RBlk) : Prop := ∀ b ∈ L, b.h ≠ 0 → (∃ x, b.loc = some x) ∧ (b.bytes.length : Int) = szOf b.c
theorem rightI_is {L : List RBlk} {c i g : Int} {k : Nat} (h : rightI L c i g = some k) (hk : k < L.length) : L[k].c = c ∧ L[k].i = i ∧ L[k].h ≠ 0 ∧ L[k].g = g := by
  obtain ⟨h1, h2⟩ := Option.filter_eq_some_iff.1 h
  obtain ⟨_, h3, _⟩ := List.findIdx?_eq_some_iff_getElem.1 h1
  simp only [List.getElem?_eq_getElem hk] at h2
  simp at h2 h3
  exact ⟨h3.1, h3.2, h2.1, h2.2⟩
theorem szOf_le (c : Int) : 0 ≤ szOf c ∧ szOf c ≤ 4096 := by
  unfold szOf; (repeat' split) <;> omega
def iEnc (x : Int) : List Value := [.int .i64 x]
theorem iEnc_len (x : Int) : (iEnc x).length = 1 := rfl
theorem infoI : (Try.prog.info? 3).map (fun i => (i.zero, i.size, i.bytes)) = some (some (.int .i64 0), 1, 8) := by kernel_rfl

structure RGot where
  b : List Int
  e : Int
def readL (L : List RBlk) (c i g at_ n : Int) : RGot := match rightI L c i g with
  | none => ⟨[], 15⟩
  | some k => if at_ < 0 ∨ n < 0 ∨ szOf c < at_ ∨ szOf c - at_ < n then ⟨[], 2⟩ else ⟨((L.getD k ⟨0, 0, 0, 0, none, []⟩).bytes.drop at_.toNat).take n.toNat, 0⟩
def ReadL (b : List Int) (er : Int) (F : Asr) (w : World) (e : Ending) (w' : World) : Prop :=
  ∃ v, e = .returned (.tuple #[v, .int .i64 er]) ∧ Holds w' (rowL 3 1 iEnc v b * F) ∧ Sm w w'

theorem ref_byte {w : World} {a : Nat} {B : Nat → Int} {L : List RBlk} {F : Asr} (h : Holds w (refA a B L * F)) (k : Nat) (hk : k < L.length) (x : Nat) (hx : L[k].loc = some x) :
    x < w.heap.size ∧ ∀ j, j < L[k].bytes.length → w.cell? ⟨x, j, none⟩ = some (.int .i64 (L[k].bytes.getD j 0)) := by
  obtain ⟨v, hv⟩ := ref_open h
  have ho : L[k].own = pts x (.cells (L[k].bytes.map (Value.int .i64)).toArray 3 (0, 0)) := by simp [RBlk.own, hx]
  have hb : Holds w (pts x (.cells (L[k].bytes.map (Value.int .i64)).toArray 3 (0, 0)) * (big RBlk.own (L.eraseIdx k) * (hd a B v * (rowL 149 5 RBlk.enc v L * F)))) := by
    refine hv.eqv ?_
    rw [big_at _ _ _ hk, ho]
    ac_rfl
  refine ⟨hb.lt, fun j hj => ?_⟩
  rw [hb.cell j]
  simp [List.getD, hj]

set_option maxHeartbeats 1500000 in
theorem read_calls (a : Nat) (B : Nat → Int) (L : List RBlk) (F : Asr) (c i g at_ n : Int) (w : World) (hok : OkL L) (hw : Holds w (refA a B L * F)) :
    Calls Try.prog 24 #[.pointer (some ⟨a, 0, none⟩), .int .i64 c, .int .i64 i, .int .i64 g, .int .i64 at_, .int .i64 n] w (ReadL (readL L c i g at_ n).b (readL L c i g at_ n).e (refA a B L * F) w) := by
  have FD := Lib.hid (right_calls a B L F c i g w hw)
  have HW := Lib.hid hw
  clear hw
  cases hf : rightI L c i g with
  | none =>
    have R : Hid (readL L c i g at_ n = ⟨[], 15⟩) := by show _ = _; simp [readL, hf]
    rw [hf] at FD
    simp only [toI] at FD
    clear hf
    go_enter Try.func24, Try.ntmps24
    go_wp2_with (go_at_call 82; refine (FD.out).mono ?_; rintro e w' ⟨rfl, rfl⟩)
    go_ret2
    rw [R.out]
    exact ⟨_, rfl, rowL_nil HW.out, Sm.refl _⟩
  | some k =>
    have hk := rightI_lt hf
    obtain ⟨hc, -, hh, -⟩ := rightI_is hf hk
    obtain ⟨⟨x, hx⟩, hlen⟩ := hok L[k] (List.getElem_mem _) hh
    rw [hc] at hlen
    have hsz := szOf_le c
    have e2 : decide ((k : Int) < 0) = false := by simp
    have R : Hid (readL L c i g at_ n = if at_ < 0 ∨ n < 0 ∨ szOf c < at_ ∨ szOf c - at_ < n then ⟨[], 2⟩ else ⟨(L[k].bytes.drop at_.toNat).take n.toNat, 0⟩) := by show _ = _; simp [readL, hf, hk]
    have SZ := Lib.hid (fun w => sizes_calls c w)
    obtain ⟨s, hs⟩ : ∃ s, szOf c = s := ⟨_, rfl⟩
    rw [hs] at hsz hlen R
    simp only [hs] at SZ
    rw [hf] at FD
    simp only [toI] at FD
    have HX := Lib.hid hx
    clear hf hh hc hs hx
    by_cases ha : at_ < 0
    · have d0 : decide (at_ < 0) = true := by simpa using ha
      have R' : Hid (readL L c i g at_ n = ⟨[], 2⟩) := by show _ = _; rw [R.out, if_pos (.inl ha)]
      go_enter Try.func24, Try.ntmps24
      go_wp2_with (go_at_call 82; refine (FD.out).mono ?_; rintro e w' ⟨rfl, rfl⟩)
      go_ret2
      rw [R'.out]
      exact ⟨_, rfl, rowL_nil HW.out, Sm.refl _⟩
    have d0 : decide (at_ < 0) = false := by simpa using ha
    by_cases hn : n < 0
    · have d1 : decide (n < 0) = true := by simpa using hn
      have R' : Hid (readL L c i g at_ n = ⟨[], 2⟩) := by show _ = _; rw [R.out, if_pos (.inr (.inl hn))]
      go_enter Try.func24, Try.ntmps24
      go_wp2_with (go_at_call 82; refine (FD.out).mono ?_; rintro e w' ⟨rfl, rfl⟩)
      go_ret2
      rw [R'.out]
      exact ⟨_, rfl, rowL_nil HW.out, Sm.refl _⟩
    have d1 : decide (n < 0) = false := by simpa using hn
    by_cases h3 : s < at_
    · have d2 : decide (s < at_) = true := by simpa using h3
      have R' : Hid (readL L c i g at_ n = ⟨[], 2⟩) := by show _ = _; rw [R.out, if_pos (.inr (.inr (.inl h3)))]
      go_enter Try.func24, Try.ntmps24
      go_wp2_with (first | (go_at_call 82; refine (FD.out).mono ?_; rintro e w' ⟨rfl, rfl⟩) | (go_at_call 30; refine (SZ.out _).mono ?_; rintro e w1 ⟨rfl, hb⟩; have HB := Lib.hid hb; clear hb))
      go_ret2
      rw [R'.out]
      exact ⟨_, rfl, rowL_nil (HW.out.grow HB.out), .of_below HB.out⟩
    have d2 : decide (s < at_) = false := by simpa using h3
    have hwr : IntKind.i64.wrap (s - at_) = s - at_ := IntWalk.i64_in _ (by omega)
    have hwr2 : wrap64 (s - at_) = s - at_ := by unfold wrap64; omega
    go_enter Try.func24, Try.ntmps24
    go_wp2_with (go_at_call 82; refine (FD.out).mono ?_; rintro e w' ⟨rfl, rfl⟩)
    refine (SZ.out _).mono ?_
    rintro e w1 ⟨rfl, hb⟩
    have H1 := Lib.hid (HW.out.grow hb)
    have S1 : Hid (Sm w w1) := .of_below hb
    clear hb
    go_wp2_with fail
    refine (SZ.out _).mono ?_
    rintro e w2 ⟨rfl, hb⟩
    have H2 := Lib.hid (H1.out.grow hb)
    have S2 : Hid (Sm w w2) := S1.out.grow hb
    clear hb H1 S1
    by_cases h4 : s - at_ < n
    · have d3 : decide (s - at_ < n) = true := by simpa using h4
      have R' : Hid (readL L c i g at_ n = ⟨[], 2⟩) := by show _ = _; rw [R.out, if_pos (.inr (.inr (.inr h4)))]
      go_wp2_with fail
      go_ret2
      rw [R'.out]
      exact ⟨_, rfl, rowL_nil H2.out, S2.out⟩
    have d3 : decide (s - at_ < n) = false := by simpa using h4
    obtain ⟨A, rfl⟩ := Int.eq_ofNat_of_zero_le (show 0 ≤ at_ by omega)
    obtain ⟨m, rfl⟩ := Int.eq_ofNat_of_zero_le (show 0 ≤ n by omega)
    have R' : Hid (readL L c i g A m = ⟨(L[k].bytes.drop A).take m, 0⟩) := by show _ = _; rw [R.out, if_neg (by omega)]; simp
    have hAm : A + m ≤ L[k].bytes.length := by omega
    have hbl : L[k].bytes.length ≤ 4096 := by omega
    have hm4 : m ≤ 4096 := by omega
    clear R hwr hwr2
    go_wp2_with fail
    go_loopw [15, 16] (fun v x wr => ∃ j : Nat, j ≤ m ∧ x = .int .i64 j ∧ Hid (Holds wr (rowL 3 1 iEnc v ((L[k].bytes.drop A).take j) * (refA a B L * F))) ∧ Hid (Sm w wr)) (fun _ x _ => m - (intOf x).toNat)
    case atStart => exact ⟨0, Nat.zero_le _, rfl, by show Holds _ _; rw [List.take_zero]; exact rowL_nil H2.out, S2.out⟩
    case round =>
      clear H2 S2
      obtain ⟨j, hj, rfl, HH, HS⟩ := hrel
      have hl : ((L[k].bytes.drop A).take j).length = j := by simp; omega
      by_cases hlt : j < m
      · obtain ⟨ao2, cap2, hv, hcap⟩ := rowA_slice HH.out
        rw [hl] at hv hcap
        subst hv
        obtain ⟨v, ao, cap, S, -⟩ := ref_seen (HH.out.eqv (star_left_comm _ _ _))
        obtain rfl := S.is
        have h1 := S.lt
        have h2 := S.sl
        obtain ⟨gb, rfl, hg, hcell⟩ := S.cell k hk
        have k4 := hcell 4 (by omega)
        simp only [RBlk.enc, List.getElem?_cons_zero, List.getElem?_cons_succ, RBlk.sl, HX.out] at k4
        obtain ⟨hxl, hby⟩ := ref_byte (HH.out.eqv (star_left_comm _ _ _)) k hk x HX.out
        obtain ⟨q, hq⟩ : ∃ q, A + j = q := ⟨_, rfl⟩
        have kb := hby q (by omega)
        obtain ⟨y, hy⟩ : ∃ y, L[k].bytes.getD q 0 = y := ⟨_, rfl⟩
        rw [hy] at kb
        have NX : Hid ((L[k].bytes.drop A).take (j + 1) = (L[k].bytes.drop A).take j ++ [y]) := by
          show _ = _
          rw [List.take_succ_eq_append_getElem (by simp; omega)]
          subst hq; simp [← hy, List.getD, List.getElem?_eq_getElem (show A + j < L[k].bytes.length by omega)]
        obtain ⟨l, hll⟩ : ∃ l, (L[k].bytes.drop A).take j = l := ⟨_, rfl⟩
        rw [hll] at HH NX hl
        have HA := Lib.hid ((HH.out.alloc (.cells #[.int .i64 y] 3)).right)
        have HL : Hid (l.length + 1 ≤ maxLen) := by show _ ≤ _; rw [hl]; unfold maxLen; omega
        have HL2 : Hid ((l.length + 1) * 8 ≤ 140737488355328) := by show _ ≤ _; rw [hl]; omega
        have e0 : (0 : Int) ≤ (k : Int) := by omega
        have e1 : (k : Int) < (L.length : Int) := by omega
        have b0 : (0 : Int) ≤ (q : Int) := by omega
        have b1 : (q : Int) < (L[k].bytes.length : Int) := by omega
        have bw : IntKind.i64.wrap ((A : Int) + (j : Int)) = (q : Int) := by rw [IntWalk.i64_in _ (by omega)]; omega
        have bw2 : wrap64 ((A : Int) + (j : Int)) = (q : Int) := by unfold wrap64; omega
        obtain ⟨bl, hbl'⟩ : ∃ bl, L[k].bytes.length = bl := ⟨_, rfl⟩
        rw [hbl'] at k4 b1
        clear S hcell hby hy hll hAm hcap hq hbl' hbl hlen hok h4 d3 d2 d1 d0 hsz
        go_wp2_with (at_builtin; refine wpList_append_one (enc := iEnc) rfl _ _ 48 rfl 3 (.int .i64 0) 1 8 Try.underlying48 infoI rfl y rfl HA.out ⟨wr.heap.size, 0, none⟩ 1 rfl rfl (cells_new wr #[.int .i64 y] 3 _ rfl) (by simp [iEnc, Value.oneCell']) HL.out HL2.out ?_)
        intro v' w3 h3 s3
        have H3 : Hid (Holds w3 (rowL 3 1 iEnc v' ((L[k].bytes.drop A).take (j + 1)) * (refA a B L * F))) := by
          show Holds _ _; rw [NX.out]; exact h3
        have S3 : Hid (Sm w w3) := (HS.out.alloc _).trans s3
        clear h3 s3 HA HH HS bw bw2
        go_wp2_with fail
        go_roundw
        case rel => exact ⟨j + 1, by omega, by go_num, H3.out, S3.out⟩
        case measure => simp [intOf]; omega
      · obtain rfl : m = j := by omega
        go_wp2_with fail
        go_ret2
        rw [R'.out]
        exact ⟨_, rfl, HH.out, HS.out⟩
#print axioms read_calls
end Go.Proofs.Ytmaoboepmbioiaa.Ref15
