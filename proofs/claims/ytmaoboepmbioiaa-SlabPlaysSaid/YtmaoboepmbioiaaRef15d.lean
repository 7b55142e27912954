/-
  The document's arena (ref15): Write.
-/
import Derived.Test.YtmaoboepmbioiaaRef15c
import Derived.Test.YtmaoboepmbioiaaSlabRW
namespace Go.Proofs.Ytmaoboepmbioiaa.Ref15
open Go.RowKit Go.Sep
open Go.Proofs.Ytmaoboepmbioiaa.Slab (szOf Src)
set_option maxRecDepth 100000
set_option linter.unusedVariables false
set_option linter.unusedSimpArgs false

def putB (b : RBlk) (A : Nat) (bs : List Int) : RBlk := { b with bytes := b.bytes.take A ++ bs ++ b.bytes.drop (A + bs.length) }
theorem putB_len (b : RBlk) (A : Nat) (bs : List Int) (h : A + bs.length ≤ b.bytes.length) : (putB b A bs).bytes.length = b.bytes.length := by
  simp [putB]; omega
theorem putB_snoc (b : RBlk) (A : Nat) (bs : List Int) (z : Int) (h : A + bs.length < b.bytes.length) : (putB b A (bs ++ [z])).bytes = (putB b A bs).bytes.set (A + bs.length) z := by
  unfold putB
  simp only
  have e1 : b.bytes.drop (A + bs.length) = b.bytes[A + bs.length] :: b.bytes.drop (A + bs.length + 1) := List.drop_eq_getElem_cons h
  have hl : (b.bytes.take A ++ bs).length = A + bs.length := by simp; omega
  rw [e1, List.set_append_right _ _ (by omega), hl, Nat.sub_self, List.set_cons_zero]
  simp [Nat.add_assoc]
theorem putB_nil (b : RBlk) (A : Nat) : putB b A [] = b := by simp [putB]
def writeL (L : List RBlk) (c i g at_ : Int) (bs : List Int) : RDid := match rightI L c i g with
  | none => ⟨L, 15⟩
  | some k => if at_ < 0 ∨ szOf c < at_ ∨ szOf c - at_ < bs.length then ⟨L, 2⟩ else ⟨L.set k (putB (L.getD k ⟨0, 0, 0, 0, none, []⟩) at_.toNat bs), 0⟩

theorem ref_bfz {w : World} {a : Nat} {B : Nat → Int} {L : List RBlk} {F : Asr} (h : Holds w (refA a B L * F)) (k : Nat) (hk : k < L.length) (x : Nat) (hx : L[k].loc = some x) (j : Nat) : w.frozen? ⟨x, j, none⟩ = false := by
  obtain ⟨v, hv⟩ := ref_open h
  have ho : L[k].own = pts x (.cells (L[k].bytes.map (Value.int .i64)).toArray 3 (0, 0)) := by simp [RBlk.own, hx]
  have hb : Holds w (pts x (.cells (L[k].bytes.map (Value.int .i64)).toArray 3 (0, 0)) * (big RBlk.own (L.eraseIdx k) * (hd a B v * (rowL 149 5 RBlk.enc v L * F)))) := by
    refine hv.eqv ?_
    rw [big_at _ _ _ hk, ho]
    ac_rfl
  exact hb.frozen j
/-- a byte of a block is stored -/
theorem ref_put {w : World} {a : Nat} {B : Nat → Int} {L : List RBlk} {F : Asr} (k : Nat) (hk : k < L.length) (b : RBlk) (x : Nat) (hx : b.loc = some x) (h : Holds w (refA a B (L.set k b) * F)) (o : Nat) (z : Int) (b' : RBlk) (hb : b' = { b with bytes := b.bytes.set o z }) :
    Holds (w.setCell ⟨x, o, none⟩ (.int .i64 z)) (refA a B (L.set k b') * F) := by
  obtain ⟨v, hv⟩ := ref_open h
  have hk' : k < (L.set k b).length := by simpa using hk
  have ho : b.own = pts x (.cells (b.bytes.map (Value.int .i64)).toArray 3 (0, 0)) := by simp [RBlk.own, hx]
  have ho' : b'.own = pts x (.cells ((b.bytes.set o z).map (Value.int .i64)).toArray 3 (0, 0)) := by simp [hb, RBlk.own, hx]
  have he : b'.enc = b.enc := by simp [hb, RBlk.enc, RBlk.sl, hx]
  have e0 : (L.set k b).flatMap RBlk.enc = (L.set k b').flatMap RBlk.enc := by
    rw [List.flatMap_def, List.flatMap_def, List.map_set, List.map_set, he]
  have hb1 : Holds w (pts x (.cells (b.bytes.map (Value.int .i64)).toArray 3 (0, 0)) * (big RBlk.own (L.eraseIdx k) * (hd a B v * (rowL 149 5 RBlk.enc v (L.set k b) * F)))) := by
    refine hv.eqv ?_
    rw [big_set _ _ _ _ hk, ho]
    ac_rfl
  have hb2 := hb1.store o (.int .i64 z)
  have e1 : (b.bytes.map (Value.int .i64)).toArray.setIfInBounds o (.int .i64 z) = ((b.bytes.set o z).map (Value.int .i64)).toArray := by
    simp [List.map_set]
  rw [e1] at hb2
  refine ref_shut (v := v) (hb2.eqv ?_)
  rw [big_set _ _ _ _ hk, ho']
  have e2 : rowL 149 5 RBlk.enc v (L.set k b) = rowL 149 5 RBlk.enc v (L.set k b') := by
    unfold rowL; rw [e0]; simp
  rw [e2]
  ac_rfl
#print axioms ref_put

set_option maxHeartbeats 2000000 in
theorem write_calls (a : Nat) (B : Nat → Int) (L : List RBlk) (F : Asr) (c i g at_ : Int) (so : Option Addr) (sn sc : Nat) (bs : List Int) (w : World) (hok : OkL L) (hw : Holds w (refA a B L * F))
    (hsrc : ∀ wq L', Holds wq (refA a B L' * F) → Sm w wq → Src wq so sn bs) (hb8 : ∀ x ∈ bs, 0 ≤ x ∧ x < 256) (hbs : bs.length = sn) (hsn : sn ≤ 1048576) :
    Calls Try.prog 22 #[.pointer (some ⟨a, 0, none⟩), .int .i64 c, .int .i64 i, .int .i64 g, .int .i64 at_, .slice so sn sc] w fun e w' => e = .returned (.int .i64 (writeL L c i g at_ bs).e) ∧ Holds w' (refA a B (writeL L c i g at_ bs).L * F) ∧ Sm w w' := by
  have FD := Lib.hid (right_calls a B L F c i g w hw)
  have HW := Lib.hid hw
  have SRC := Lib.hid hsrc
  have B8 := Lib.hid hb8
  have HBS := Lib.hid hbs
  clear hw hsrc hb8
  cases hf : rightI L c i g with
  | none =>
    have R : Hid (writeL L c i g at_ bs = ⟨L, 15⟩) := by show _ = _; simp [writeL, hf]
    rw [hf] at FD
    simp only [toI] at FD
    clear hf hbs
    go_enter Try.func22, Try.ntmps22
    go_wp2_with (go_at_call 82; refine (FD.out).mono ?_; rintro e w' ⟨rfl, rfl⟩)
    go_ret
    exact ⟨by rw [R.out]; rfl, by rw [R.out]; exact HW.out, Sm.refl _⟩
  | some k =>
    have hk := rightI_lt hf
    obtain ⟨hc, -, hh, -⟩ := rightI_is hf hk
    obtain ⟨⟨x, hx⟩, hlen⟩ := hok L[k] (List.getElem_mem _) hh
    rw [hc] at hlen
    have hsz := szOf_le c
    have e2 : decide ((k : Int) < 0) = false := by simp
    have R : Hid (writeL L c i g at_ bs = if at_ < 0 ∨ szOf c < at_ ∨ szOf c - at_ < bs.length then ⟨L, 2⟩ else ⟨L.set k (putB L[k] at_.toNat bs), 0⟩) := by show _ = _; simp [writeL, hf, hk]
    have SZ := Lib.hid (fun w => sizes_calls c w)
    obtain ⟨s, hs⟩ : ∃ s, szOf c = s := ⟨_, rfl⟩
    rw [hs] at hsz hlen R
    simp only [hs] at SZ
    rw [hbs] at R
    rw [hf] at FD
    simp only [toI] at FD
    have HX := Lib.hid hx
    clear hf hh hc hs hx hbs
    by_cases ha : at_ < 0
    · have d0 : decide (at_ < 0) = true := by simpa using ha
      have R' : Hid (writeL L c i g at_ bs = ⟨L, 2⟩) := by show _ = _; rw [R.out, if_pos (.inl ha)]
      go_enter Try.func22, Try.ntmps22
      go_wp2_with (go_at_call 82; refine (FD.out).mono ?_; rintro e w' ⟨rfl, rfl⟩)
      go_ret
      exact ⟨by rw [R'.out]; rfl, by rw [R'.out]; exact HW.out, Sm.refl _⟩
    have d0 : decide (at_ < 0) = false := by simpa using ha
    by_cases h3 : s < at_
    · have d2 : decide (s < at_) = true := by simpa using h3
      have R' : Hid (writeL L c i g at_ bs = ⟨L, 2⟩) := by show _ = _; rw [R.out, if_pos (.inr (.inl h3))]
      go_enter Try.func22, Try.ntmps22
      go_wp2_with (first | (go_at_call 82; refine (FD.out).mono ?_; rintro e w' ⟨rfl, rfl⟩) | (go_at_call 30; refine (SZ.out _).mono ?_; rintro e w1 ⟨rfl, hb⟩; have HB := Lib.hid hb; clear hb))
      go_ret
      exact ⟨by rw [R'.out]; rfl, by rw [R'.out]; exact HW.out.grow HB.out, .of_below HB.out⟩
    have d2 : decide (s < at_) = false := by simpa using h3
    have hwr : IntKind.i64.wrap (s - at_) = s - at_ := IntWalk.i64_in _ (by omega)
    have hwr2 : wrap64 (s - at_) = s - at_ := by unfold wrap64; omega
    go_enter Try.func22, Try.ntmps22
    go_wp2_with (go_at_call 82; refine (FD.out).mono ?_; rintro e w' ⟨rfl, rfl⟩)
    refine (SZ.out _).mono ?_
    rintro e w1 ⟨rfl, hb⟩
    have H1 := Lib.hid (HW.out.grow hb)
    have S1 : Hid (Sm w w1) := .of_below hb
    clear hb
    go_wp2_with fail
    refine (SZ.out _).mono ?_
    rintro e w2 ⟨rfl, hb⟩
    have H2 := Lib.hid (H1.out.grow hb)
    have S2 : Hid (Sm w w2) := S1.out.grow hb
    clear hb H1 S1
    by_cases h4 : s - at_ < (sn : Int)
    · have d3 : decide (s - at_ < (sn : Int)) = true := by simpa using h4
      have R' : Hid (writeL L c i g at_ bs = ⟨L, 2⟩) := by show _ = _; rw [R.out, if_pos (.inr (.inr h4))]
      go_wp2_with fail
      go_ret
      exact ⟨by rw [R'.out]; rfl, by rw [R'.out]; exact H2.out, S2.out⟩
    have d3 : decide (s - at_ < (sn : Int)) = false := by simpa using h4
    obtain ⟨A, rfl⟩ := Int.eq_ofNat_of_zero_le (show 0 ≤ at_ by omega)
    have R' : Hid (writeL L c i g A bs = ⟨L.set k (putB L[k] A bs), 0⟩) := by show _ = _; rw [R.out, if_neg (by omega)]; simp
    have hAm : A + sn ≤ L[k].bytes.length := by omega
    have hbl : L[k].bytes.length ≤ 4096 := by omega
    clear R hwr hwr2
    go_wp2_with fail
    go_loopw [14] (fun x wr => ∃ j : Nat, j ≤ sn ∧ x = .int .i64 j ∧ Hid (Holds wr (refA a B (L.set k (putB L[k] A (bs.take j))) * F)) ∧ Hid (Sm w wr)) (fun x _ => sn - (intOf x).toNat)
    case atStart => exact ⟨0, Nat.zero_le _, rfl, by show Holds _ _; rw [List.take_zero, putB_nil, List.set_getElem_self]; exact H2.out, S2.out⟩
    case round =>
      clear H2 S2
      obtain ⟨j, hj, rfl, HH, HS⟩ := hrel
      have hlb : bs.length = sn := HBS.out
      by_cases hlt : j < sn
      · obtain ⟨b, hb⟩ : ∃ b, putB L[k] A (bs.take j) = b := ⟨_, rfl⟩
        have hbx : b.loc = some x := by rw [← hb]; exact HX.out
        have hbl' : b.bytes.length = L[k].bytes.length := by rw [← hb]; exact putB_len _ _ _ (by simp; omega)
        rw [hb] at HH
        obtain ⟨z, hz⟩ : ∃ z, bs.getD j 0 = z := ⟨_, rfl⟩
        have hzb : 0 ≤ z ∧ z < 256 := by
          refine B8.out z ?_
          rw [← hz, List.getD, List.getElem?_eq_getElem (by omega)]
          exact List.getElem_mem _
        obtain ⟨q, hq⟩ : ∃ q, A + j = q := ⟨_, rfl⟩
        have hput := ref_put k hk b x hbx HH.out q z (putB L[k] A (bs.take (j + 1))) (by
          have e : bs.take (j + 1) = bs.take j ++ [z] := by
            rw [List.take_succ_eq_append_getElem (by omega), ← hz]
            simp [List.getD, List.getElem?_eq_getElem (show j < bs.length by omega)]
          have hl : (bs.take j).length = j := by simp; omega
          have := putB_snoc L[k] A (bs.take j) z (by rw [hl]; omega)
          rw [← e, hb, hl, hq] at this
          rw [← this, ← hb]
          rfl)
        have HP := Lib.hid hput
        obtain ⟨sb, so', hso, hsl, hsc⟩ := (SRC.out wr _ HH.out HS.out).cell (by omega)
        have cs := hsc j (by omega)
        rw [hz] at cs
        subst hso
        have hk' : k < (L.set k b).length := by simpa using hk
        obtain ⟨v, ao, cap, S, -⟩ := ref_seen HH.out
        obtain rfl := S.is
        have h1 := S.lt
        have h2 := S.sl
        obtain ⟨gb, rfl, hg, hcell⟩ := S.cell k hk'
        have k4 := hcell 4 (by omega)
        rw [List.getElem_set_self] at k4
        simp only [RBlk.enc, List.getElem?_cons_zero, List.getElem?_cons_succ, RBlk.sl, hbx] at k4
        have hby := ref_byte HH.out k hk' x (by rw [List.getElem_set_self]; exact hbx)
        rw [List.getElem_set_self] at hby
        have xfz := ref_bfz HH.out k hk' x (by rw [List.getElem_set_self]; exact hbx) q
        obtain ⟨hxl, hby⟩ := hby
        have kb := hby q (by omega)
        obtain ⟨y, hy⟩ : ∃ y, b.bytes.getD q 0 = y := ⟨_, rfl⟩
        rw [hy] at kb
        rw [List.length_set] at h2
        obtain ⟨bl, hbe⟩ : ∃ bl, b.bytes.length = bl := ⟨_, rfl⟩
        rw [hbe] at k4 hbl'
        have e0 : (0 : Int) ≤ (k : Int) := by omega
        have e1 : (k : Int) < (L.length : Int) := by omega
        have b0 : (0 : Int) ≤ (q : Int) := by omega
        have b1 : (q : Int) < (bl : Int) := by omega
        have j0 : (0 : Int) ≤ (j : Int) := by omega
        have j1 : (j : Int) < (sn : Int) := by omega
        have bw : IntKind.i64.wrap ((A : Int) + (j : Int)) = (q : Int) := by rw [IntWalk.i64_in _ (by omega)]; omega
        have bw2 : wrap64 ((A : Int) + (j : Int)) = (q : Int) := by unfold wrap64; omega
        have zw : IntKind.i64.wrap z = z := IntWalk.i64_in _ (by omega)
        have zw2 : wrap64 z = z := by unfold wrap64; omega
        have S3 : Hid (Sm w (wr.setCell ⟨x, q, none⟩ (.int .i64 z))) := HS.out.setCell _ _
        clear S hcell hby hy hAm hq hbe hbl' hbl hlen hok h4 d3 d2 d0 hsz hb hbx hput hz hsc hlb
        go_wp2_with fail
        go_region
        go_wp2_with fail
        go_roundw
        case rel => exact ⟨j + 1, by omega, by go_num, HP.out, S3.out.drew⟩
        case measure => simp [intOf]; omega
      · obtain rfl : sn = j := by omega
        have e : bs.take sn = bs := by rw [← hlb, List.take_length]
        rw [e] at HH
        go_wp2_with fail
        go_ret
        exact ⟨by rw [R'.out]; rfl, by rw [R'.out]; exact HH.out, HS.out⟩
#print axioms write_calls
end Go.Proofs.Ytmaoboepmbioiaa.Ref15
